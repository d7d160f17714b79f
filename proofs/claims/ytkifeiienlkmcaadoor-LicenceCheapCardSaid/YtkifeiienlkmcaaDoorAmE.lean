/-
  Maps and appending.
-/
import Derived.Test.YtkifeiienlkmcaaDoorAmD
import Derived.MapKept
set_option linter.all false
namespace Go.Proofs.AM
open Go

section
variable {P : Program} {E : Env} {c0 : Cf} {st0 : St} {w0 : World} {mk : List Nat} {c : Cf} {st : St} {w : World} {lam : Nat → Nat} {bs : Bxs} {ts : List (Nat × TV)} {a : Act}

theorem zeroVIs_run {t : TypeId} {zero : AV} (h : zeroVIs P t zero = true) : ∃ z, (∀ w, (zeroValue t).run P w = .ok z w) ∧ ∀ (c : Cf) (w : World), VR c w zero z := by
  unfold zeroVIs at h
  split at h
  · rename_i i hi
    split at h
    · rename_i z hz
      refine ⟨z, fun w => by simp [zeroValue, typeInfo, hi, hz], fun c w => ?_⟩
      split at h
      · rename_i cs vs
        have := okVs_CL (c := c) (w := w) h
        exact VR.agg cs vs.toList this.len this.one this.rel
      · exact okV_VR h
    · cases h
  · cases h
theorem findK_len {sg : List Bool} {kc : List AV} : ∀ {es : List (List AV × AV)} {r : Option AV}, findK sg kc es = some r → es = [] ∨ kc.length = sg.length
  | [], _, _ => .inl rfl
  | (k, v) :: es, r, h => by
    simp only [findK] at h
    split at h
    · rename_i e; exact .inr (eqL_len e).1
    · rename_i e; exact .inr (eqL_len e).1
    · cases h
/-- A key that is of its kind: bools and whole numbers. -/
def keyL : List Bool → List AV → Bool
  | [], [] => true
  | true :: sg, .bool _ :: r => keyL sg r
  | false :: sg, .int _ _ :: r => keyL sg r
  | _, _ => false
theorem run_keyCheck {em : Bool} {t : TypeId} {sg : List Bool} (h : keyT P t sg = true) {kc : List AV} {kv : List Value} (hk : CL c w kc kv) (hl : kc.length = sg.length) (w1 : World) : (Instr.checkKey em 10000 t (.agg kv.toArray)).run P w1 = .ok () w1 :=
  run_checkKey_flat 6 t sg (keyT_flat h).1 10000 (by omega) kv (by rw [hk.len, hl]) _ ((keyT_flat h).2 kv)
theorem VR.map_inv {id : Nat} {x : Value} (h : VR c w (.map id) x) : ∃ b k, x = .map (some b) ∧ c.bt id 0 = some (b, k) := by
  cases h with
  | map id b k hb => exact ⟨b, k, rfl, hb⟩
theorem agg_cells {v : AV} {cs : List AV} (h : v.cells = some cs) {x : Value} (hv : VR c w v x) (hagg : v.one = false) : ∃ vs, x = .agg vs.toArray ∧ CL c w cs vs := by
  cases v <;> simp [AV.one] at hagg
  · simp [AV.cells] at h; subst h; exact hv.agg_inv
  · simp [AV.cells] at h
theorem sim_look (hs : SR P E c0 st0 w0 mk c st w lam bs) (hts : TS c w lam ts a.tmps) {o : Oper} {sg : List Bool} {zero : AV} {okq : Bool} {m k : AX} (hok : okOp P (.look sg zero okq m k) o.op = true) {id : Nat} (hm : rdV ts m = some (.map id)) {kc : List AV}
    (hk : rdV ts k = some (.agg kc)) (hlen : kc.length = sg.length) {es : List (List AV × AV)} (he : st.heap[id]? = some (.map es)) {r : Option AV} (hf : findK sg kc es = some r) :
    Pure1 P a c w lam o (.v (if okq then .tup [r.getD zero, .bool r.isSome] else r.getD zero)) := by
  unfold Pure1 execOp
  cases ho : o.op <;> rw [ho] at hok <;> simp [okOp] at hok
  rename_i t m' k' ok'
  obtain ⟨⟨⟨rfl, hmx⟩, hkx⟩, hty⟩ := hok
  split at hty
  · rename_i kt e hu
    simp only [Bool.and_eq_true] at hty
    obtain ⟨hkt, hz⟩ := hty
    obtain ⟨z, hzr, hzv⟩ := zeroVIs_run hz
    obtain ⟨b, q, em, hb⟩ := (rdV_VR hts hmx hm).map_inv
    obtain ⟨kv, ek, hkv⟩ := (rdV_VR hts hkx hk).agg_inv
    have hobj := hs.hr.obj _ _ _ _ hb
    rw [he] at hobj
    obtain ⟨ms, clock, hh, hml, hent⟩ := hobj rfl
    have hck := fun em => run_keyCheck (P := P) (em := em) hkt hkv hlen w
    have key : ∀ (v : AV) (x : Value), VR c w v x → ∀ q : Bool, ∃ y, y = (if okq then Value.tuple #[x, .bool q] else x) ∧ TR c w lam (.v (if okq then .tup [v, .bool q] else v)) y := by
      intro v x hv q
      refine ⟨_, rfl, .v ?_⟩
      cases okq
      · exact hv
      · refine VR.tup [v, .bool q] [x, .bool q] rfl (fun k hk => ?_)
        match k, hk with
        | 0, _ => exact hv
        | 1, _ => exact .bool q
    rcases run_find (P := P) hkt hkv es ms 0 hml hent r hf with ⟨rfl, h1⟩ | ⟨v, i, val, rfl, h1, h2, _, _, _⟩
    · obtain ⟨y, hy, hr⟩ := key zero z (hzv c w) false
      refine ⟨y, ?_, hr⟩
      subst hy
      simp [Instr.lookup, run_underlying hu, em, ek, MapKept.run_getObj_map hh, hck, run_findKey_asking hkt, h1, hzr]
    · obtain ⟨y, hy, hr⟩ := key v val h2 true
      refine ⟨y, ?_, hr⟩
      subst hy
      simp [Instr.lookup, run_underlying hu, em, ek, MapKept.run_getObj_map hh, hck, run_findKey_asking hkt, h1]
  · cases hty

/-! ### Updates -/
theorem findK_none {sg : List Bool} {kc : List AV} {a : AV} : ∀ {es : List (List AV × AV)}, findK sg kc es = some none → updK sg kc a es = some (es ++ [(kc, a)])
  | [], _ => rfl
  | (k, v) :: es, h => by
    simp only [findK] at h
    split at h
    · cases h
    · rename_i e
      simp [updK, e, findK_none h]
    · cases h
theorem updK_find {sg : List Bool} {kc : List AV} {a : AV} : ∀ {es es' : List (List AV × AV)}, updK sg kc a es = some es' → ∃ r, findK sg kc es = some r
  | [], _, _ => ⟨none, rfl⟩
  | (k, v) :: es, es', h => by
    simp only [updK] at h
    split at h
    · rename_i e; exact ⟨some v, by simp [findK, e]⟩
    · rename_i e
      split at h
      · rename_i e'
        obtain ⟨r, hr⟩ := updK_find e'
        exact ⟨r, by simp [findK, e, hr]⟩
      · cases h
    · cases h
theorem eqL_same : ∀ {sg : List Bool} {as bs : List AV}, eqL sg as bs = some true → ∀ {vs us : List Value}, CL c w as vs → CL c w bs us → vs = us
  | [], as, bs, h, vs, us, hv, hu => by
    obtain ⟨rfl, rfl, _⟩ := eqL_nil h
    have h1 := hv.len; have h2 := hu.len
    simp at h1 h2; rw [h1, h2]
  | true :: sg, as, bs, h, vs, us, hv, hu => by
    obtain ⟨p, q, as', bs', s, rfl, rfl, hs, hr⟩ := eqL_t h
    obtain ⟨x, vs', rfl, hx, _, hv'⟩ := hv.uncons
    obtain ⟨y, us', rfl, hy, _, hu'⟩ := hu.uncons
    simp at hr
    obtain ⟨e1, rfl⟩ := hr
    cases hx; cases hy
    rw [e1, eqL_same hs hv' hu']
  | false :: sg, as, bs, h, vs, us, hv, hu => by
    obtain ⟨k, p, q, as', bs', s, rfl, rfl, hs, hr⟩ := eqL_f h
    obtain ⟨x, vs', rfl, hx, _, hv'⟩ := hv.uncons
    obtain ⟨y, us', rfl, hy, _, hu'⟩ := hu.uncons
    simp at hr
    obtain ⟨e1, rfl⟩ := hr
    cases hx; cases hy
    rw [e1, eqL_same hs hv' hu']
theorem eqL_bits : ∀ {sg : List Bool} {as bs : List AV} {r : Bool}, eqL sg as bs = some r → ∀ {vs : List Value}, CL c w as vs → ∀ n, (vs.zip vs).all (fun (x, y) => Instr.sameBits n x y) = true
  | [], as, bs, r, h, vs, hv, n => by
    obtain ⟨rfl, _, _⟩ := eqL_nil h
    have h1 := hv.len
    simp at h1; subst h1; rfl
  | true :: sg, as, bs, r, h, vs, hv, n => by
    obtain ⟨p, q, as', bs', s, rfl, rfl, hs, hr⟩ := eqL_t h
    obtain ⟨x, vs', rfl, hx, _, hv'⟩ := hv.uncons
    cases hx
    have := eqL_bits hs hv' n
    cases n <;> simp [Instr.sameBits] at this ⊢ <;> exact this
  | false :: sg, as, bs, r, h, vs, hv, n => by
    obtain ⟨k, p, q, as', bs', s, rfl, rfl, hs, hr⟩ := eqL_f h
    obtain ⟨x, vs', rfl, hx, _, hv'⟩ := hv.uncons
    cases hx
    have := eqL_bits hs hv' n
    cases n <;> simp [Instr.sameBits] at this ⊢ <;> exact this
theorem sim_upd (hs : SR P E c0 st0 w0 mk c st w lam bs) (hts : TS c w lam ts a.tmps) {o : Oper} {sg : List Bool} {m k v : AX} (hok : okOp P (.upd sg m k v) o.op = true) {id : Nat} (hm : rdV ts m = some (.map id)) {kc : List AV} (hk : rdV ts k = some (.agg kc))
    (hlen : kc.length = sg.length) {u : AV} (hv : rdV ts v = some u) {es es' : List (List AV × AV)} (he : st.heap[id]? = some (.map es)) (hf : updK sg kc u es = some es') (nl : Option Nat) :
    OpOk P E c0 st0 w0 mk c st w lam bs a o nl .und bs (mods st id (.map es')) := by
  cases ho : o.op <;> rw [ho] at hok <;> simp [okOp] at hok
  rename_i t m' k' v'
  obtain ⟨⟨⟨hmx, hkx⟩, hvx⟩, hty⟩ := hok
  split at hty
  · rename_i kt e hu
    obtain ⟨b, q, em, hb⟩ := (rdV_VR hts hmx hm).map_inv
    obtain ⟨kv, ek, hkv⟩ := (rdV_VR hts hkx hk).agg_inv
    have hval := rdV_VR hts hvx hv
    have hobj := hs.hr.obj _ _ _ _ hb
    rw [he] at hobj
    obtain ⟨ms, clock, hh, hml, hent⟩ := hobj rfl
    have hck := fun em => run_keyCheck (P := P) (em := em) hty hkv hlen w
    have hwn : own st id 0 := by unfold own; rw [he]
    have hfz : ¬ c.fz b := fun h => hs.hr.fzo b h ⟨id, 0, q, hwn, hb⟩
    have hid := hs.hr.dom _ _ _ hb
    have hself := Cf.put_self hb
    -- what the write comes to
    have fin : ∀ (ms' : List MapEntry) (clock' : Nat), (execOp a.eval o).run P w = .ok .skip { w with heap := w.heap.setIfInBounds b (.map ms'.toArray clock') } → ms'.length = es'.length → (∀ i (hi : i < es'.length), ∃ m, ms'[i]? = some m ∧ EntR c w (es'[i]'hi) m) →
        OpOk P E c0 st0 w0 mk c st w lam bs a o nl .und bs (mods st id (.map es')) := by
      intro ms' clock' hrun hl' hent'
      have hset := MapKept.heap_set (o' := .map ms'.toArray clock') hh
      have hk : ∀ y, c.fz y → (w.heap.setIfInBounds b (.map ms'.toArray clock'))[y]? = w.heap[y]? := fun y hy => hset.2 y (fun e => hfz (e ▸ hy))
      obtain ⟨hs', g⟩ := hs.wr (o := .map es') (ver' := 0) (b' := b) (k' := q) (w' := { w with heap := w.heap.setIfInBounds b (.map ms'.toArray clock') }) hwn hb (.inr hb) (.inl rfl) (by simpa using hs.hr.lt _ _ _ _ hb)
        (fun x _ hx => hset.2 x hx) (by simp) rfl rfl rfl (by intro v; simp [own, mods, hid])
        (by rw [hself]; exact fun _ => ⟨ms', clock', hset.1, hl', fun i hi => let ⟨m, h1, h2, vs, h3, h4⟩ := hent' i hi; ⟨m, h1, h2.mono (Cf.le_refl c) hk, vs, h3, h4.mono (Cf.le_refl c) hk⟩⟩) (by simp)
      rw [hself] at hs' g
      exact ⟨undef, _, c, lam, .inr ⟨hrun, rfl⟩, hs', g, .und, .inl rfl⟩
    obtain ⟨r, hr⟩ := updK_find hf
    rcases run_find (P := P) hty hkv es ms 0 hml hent r hr with ⟨rfl, h1⟩ | ⟨v0, i, val, rfl, h1, h2, hi, h3, h4⟩
    · rw [findK_none hr] at hf
      simp at hf; subst hf
      refine fin (ms ++ [{ key := .agg kv.toArray, val := a.eval v', born := clock }]) (clock + 1) ?_ (by simp [hml]) ?_
      · simp [execOp, ho, Instr.mapUpdate, run_underlying hu, em, ek, MapKept.run_getObj_map hh, hck, run_findKey_asking hty, h1, MapKept.run_setObj_map _ hh]
      · intro i hi
        by_cases hlt : i < es.length
        · obtain ⟨m, hm1, hm2⟩ := hent i hlt
          refine ⟨m, by rw [List.getElem?_append_left (by rw [hml]; exact hlt)]; exact hm1, ?_⟩
          rw [List.getElem_append_left hlt]; exact hm2
        · have : i = es.length := by simp at hi; omega
          subst this
          refine ⟨{ key := .agg kv.toArray, val := a.eval v', born := clock }, by rw [← hml]; simp, ?_⟩
          rw [List.getElem_append_right (Nat.le_refl _)]
          simp only [Nat.sub_self, List.getElem_cons_zero]
          exact ⟨hval, kv, rfl, hkv⟩
    · rw [h4] at hf
      simp at hf; subst hf
      obtain ⟨m0, hm1, hm2, vs0, hm3, hm4⟩ := hent i hi
      have hsame : kv = vs0 := eqL_same h3 hkv hm4
      have hbits : Instr.sameBits 10000 (.agg kv.toArray) (.agg kv.toArray) = true := by
        have := eqL_bits h3 hkv 9999
        simpa [Instr.sameBits] using this
      have hkey : m0.key = .agg kv.toArray := by rw [hm3, hsame]
      refine fin (ms.modify i fun e => { e with key := .agg kv.toArray, val := a.eval v' }) clock ?_ (by simp [hml]) ?_
      · have hms : (ms.toArray[i]?).map (·.key) = some (.agg kv.toArray) := by simp [hm1, hkey]
        simp only [Nat.zero_add] at h1
        simp [execOp, ho, Instr.mapUpdate, run_underlying hu, em, ek, MapKept.run_getObj_map hh, hck, run_findKey_asking hty, h1, MapKept.run_setObj_map _ hh, Instr.keyThatStays, hm1, hkey, hbits]
      · intro j hj
        by_cases hji : j = i
        · subst hji
          refine ⟨{ m0 with key := .agg kv.toArray, val := a.eval v' }, by simp [List.getElem?_modify, hm1], ?_⟩
          simp only [List.getElem_set_self]
          exact ⟨hval, kv, rfl, hkv⟩
        · have hj' : j < es.length := by simpa using hj
          obtain ⟨m, hm1, hm2⟩ := hent j hj'
          refine ⟨m, by simp [List.getElem?_modify, hm1, Ne.symm hji], ?_⟩
          rw [List.getElem_set_ne (Ne.symm hji)]; exact hm2
  · cases hty
end
end Go.Proofs.AM

namespace Go.Proofs.AM
open Go

section
variable {P : Program} {E : Env} {c0 : Cf} {st0 : St} {w0 : World} {mk : List Nat} {c : Cf} {st : St} {w : World} {lam : Nat → Nat} {bs : Bxs} {ts : List (Nat × TV)} {a : Act}

theorem sliceCells_rel (hr : HR P E c w st) {es : Nat} {v : AV} {x : Value} (hv : VR c w v x) {m : Nat} {new : List AV} (h : sliceCells es st v = some (m, new)) :
    new.length = m * es ∧ ∃ ad cap, x = .slice ad m cap ∧ (0 < m → ∃ q, ad = some q ∧ Reads c w q new) := by
  unfold sliceCells at h
  split at h
  · split at h
    · rename_i hl
      simp at h
      obtain ⟨rfl, rfl⟩ := h
      obtain ⟨ad, cap, rfl, _, _, _, _, hp, hrd, _⟩ := hv.lst_inv
      refine ⟨hl, ad, cap, rfl, fun h0 => ?_⟩
      obtain ⟨q, hq⟩ := Option.isSome_iff_exists.1 (hp h0)
      exact ⟨q, hq, (hrd q hq).2⟩
    · cases h
  · rename_i es' id ver off n cap
    obtain ⟨b, k, rfl, hb, hc, _, _⟩ := hv.sl_inv
    have hobj := hr.obj _ _ _ _ hb
    have key : ∀ (cur : Array Value) (e : TypeId) (fr : Nat × Nat) (vs rest : List Value) (cs : List AV), w.heap[b]? = some (.cells cur e fr) → cur = (vs ++ rest).toArray → CL c w cs vs → off + n * es ≤ cs.length →
        ((cs.drop off).take (n * es)).length = n * es ∧ ∃ ad cap', Value.slice (some ⟨b, off, none⟩) n (cap.getD k) = .slice ad n cap' ∧ (0 < n → ∃ q, ad = some q ∧ Reads c w q ((cs.drop off).take (n * es))) := by
      intro cur e fr vs rest cs hh hcur hl hle
      exact ⟨by simp; omega, _, _, rfl, fun _ => ⟨_, rfl, (Reads.of_blk hh hcur hl off).take _⟩⟩
    split at h
    · rename_i u gr cs e
      rw [e] at hobj
      split at h
      · rename_i hcnd
        simp at h
        obtain ⟨rfl, rfl⟩ := h
        obtain ⟨⟨cur, e', hh, vs, rest, hcur, hl⟩, _⟩ := hobj hcnd.1
        exact key _ _ _ _ _ _ hh hcur hl hcnd.2.2
      · cases h
    · rename_i u cs e
      rw [e] at hobj
      split at h
      · rename_i hcnd
        simp at h
        obtain ⟨rfl, rfl⟩ := h
        obtain ⟨_, cur, e', fr, hh, vs, rest, hcur, hl⟩ := hobj hcnd.1
        exact key _ _ _ _ _ _ hh hcur hl hcnd.2.2
      · cases h
    · cases h
  · cases h
theorem okXs_two {x y : AX} : ∀ {l : List Operand}, okXs [x, y] l = true → ∃ x' y', l = [x', y'] ∧ okX x x' = true ∧ okX y y' = true
  | [], h => by simp [okXs] at h
  | [_], h => by simp [okXs] at h
  | [x', y'], h => by simp [okXs] at h; exact ⟨x', y', rfl, h⟩
  | _ :: _ :: _ :: _, h => by simp [okXs] at h
theorem Reads.list {ad : Addr} {cs : List AV} (h : Reads c w ad cs) : ∃ vs, CL c w cs vs ∧ vs.length = cs.length ∧ ∀ j v, vs[j]? = some v → w.cell? (ad.add j) = some v := let ⟨vs, h1, h2⟩ := h; ⟨vs, h1, h1.len, h2⟩

theorem run_append_room_off (t ty e : TypeId) (i : TypeInfo) (ht : P.underlying t = some (.slice e)) (hi : P.info? e = some i)
    (g off sLen sCap : Nat) (e' : TypeId) (cur : Array Value) (hg : w.heap[g]? = some (.cells cur e' (0, 0)))
    (a : Addr) (m c : Nat) (news : List Value) (hl : news.length = m * i.size) (hnews : ∀ j u, news[j]? = some u → w.cell? (a.add j) = some u) (h1 : ∀ u ∈ news, u.oneCell' = true)
    (hroom : sLen + m ≤ sCap) (hfit : off + sLen * i.size + news.length ≤ cur.size) :
    (Builtin.append_ #[t, t] ty #[.slice (some ⟨g, off, none⟩) sLen sCap, .slice (some a) m c]).run P w =
      .ok (.slice (some ⟨g, off, none⟩) (sLen + m) sCap) (w.setRow g (cur.toList.take (off + sLen * i.size) ++ news ++ cur.toList.drop (off + sLen * i.size + news.length)).toArray) := by
  have hf := run_firstCells_some (P := P) w i.size m a m c news hl hnews
  have hst := run_storeCells_at P g (off + sLen * i.size) e' news 0 cur w hg (by simpa using hfit) h1
  simp only [Nat.add_zero] at hst
  simp [Builtin.append_, run_underlying ht, sizeOf, typeInfo, hi, Builtin.lenOf, hroom, hf, add_flat, hst]

/-- The new cells of an append that moves. -/
theorem grown_ok (hs : SR P E c0 st0 w0 mk c st w lam bs) {e : TypeId} {es n m old : Nat} {z : Array Value} (hes : 0 < es) (hz : z.size = es) (hm : n + m ≤ maxLen) {os ns : List AV} {vo vn : List Value} (ho : CL c w os vo) (hn : CL c w ns vn)
    (hol : os.length = n * es) (hnl : ns.length = m * es) {o : Oper} (nl : Option Nat)
    (hrun : (execOp a.eval o).run P w = .ok (.value (.slice (some ⟨w.heap.size, 0, none⟩) (n + m) (grownCap w (n + m) old e))) (w.drew.alloc (.cells (vo.toArray ++ vn.toArray ++ Builtin.zeroCells z (grownCap w (n + m) old e - (n + m))) e))) :
    OpOk P E c0 st0 w0 mk c st w lam bs a o nl (.v (.sl es st.heap.length 0 0 (n + m) none)) bs (alloc st (.cells 0 (some (e, es)) (os ++ ns))) := by
  have g := Grew.drewAlloc w (.cells (vo.toArray ++ vn.toArray ++ Builtin.zeroCells z (grownCap w (n + m) old e - (n + m))) e)
  have hle := hs.hr.le_add w.heap.size (grownCap w (n + m) old e)
  have hk : ∀ b, c.fz b → (w.drew.alloc (.cells (vo.toArray ++ vn.toArray ++ Builtin.zeroCells z (grownCap w (n + m) old e - (n + m))) e)).heap[b]? = w.heap[b]? := fun b hb => g.old (hs.hr.fzl b hb)
  have hge := grownCap_ge w (n + m) old e
  have hcm := grownCap_le_maxLen w (n + m) old e hm
  refine ⟨_, _, c.add st.heap.length w.heap.size (grownCap w (n + m) old e), lam, .inl hrun, hs.obj g (fun _ => ⟨⟨_, e, g.new, vo ++ vn, (Builtin.zeroCells z (grownCap w (n + m) old e - (n + m))).toList, ?_, (ho.append hn).mono hle hk⟩, hes, _, g.new, ?_, hcm⟩),
    Stp.obj hs g, .v (VR.mk_sl0 (c.add_new _ _ _) hge hcm), .inl rfl⟩
  · apply Array.ext'
    simp
  · have h1 := ho.len
    have h2 := hn.len
    simp only [Array.size_append, List.size_toArray, size_zeroCells, hz, h1, h2, hol, hnl, ← Nat.add_mul]
    congr 1
    omega

theorem sim_app (hs : SR P E c0 st0 w0 mk c st w lam bs) (hts : TS c w lam ts a.tmps) {o : Oper} {es e bytes : Nat} {x y : AX} (hok : okOp P (.app es e bytes x y) o.op = true) {u v : AV} (hu : rdV ts x = some u) (hv : rdV ts y = some v) {r : AV} {st' : St}
    (h : appA es e bytes u v st = some (r, st')) (nl : Option Nat) : OpOk P E c0 st0 w0 mk c st w lam bs a o nl (.v r) bs st' := by
  cases ho : o.op <;> rw [ho] at hok <;> simp [okOp] at hok
  rename_i cl
  obtain ⟨⟨hc, hx⟩, hty⟩ := hok
  obtain ⟨cal, ⟨args⟩, ⟨tys⟩⟩ := cl
  simp only at hc hx hty
  split at hc
  case h_2 => cases hc
  split at hty
  case h_2 => cases hty
  rename_i t t'
  simp only [Bool.and_eq_true, beq_iff_eq] at hty
  obtain ⟨⟨rfl, hsl⟩, hinfo⟩ := hty
  split at hsl
  case h_2 => cases hsl
  rename_i e' ht
  simp at hsl
  subst hsl
  split at hinfo
  case h_2 => cases hinfo
  rename_i i hi
  simp only [Bool.and_eq_true, beq_iff_eq, decide_eq_true_eq] at hinfo
  obtain ⟨⟨⟨rfl, rfl⟩, hes⟩, hz⟩ := hinfo
  split at hz
  case h_2 => cases hz
  rename_i z hz'
  simp only [beq_iff_eq] at hz
  obtain ⟨x', y', rfl, hx, hy⟩ := okXs_two hx
  have hur := rdV_VR hts hx hu
  have hvr := rdV_VR hts hy hv
  unfold appA at h
  split at h
  case h_2 => cases h
  rename_i m new hsc
  obtain ⟨hnl, ad, cap, ey, hrd⟩ := sliceCells_rel hs.hr hvr hsc
  have hrm : room = 70368744177664 := rfl
  have hmaxLen : maxLen = 9223372036854775807 := rfl
  by_cases hm : m = 0
  · rw [if_pos hm] at h
    subst hm
    have key : ∀ (ad : Option Addr) (n cap : Nat), a.eval x' = .slice ad n cap → n ≤ cap → (execOp a.eval o).run P w = .ok (.value (a.eval x')) w := by
      intro ad' n' cap' ex hle
      cases ad' <;> cases ad <;> simp [execOp, ho, resolve, invoke, builtin, ex, ey, Builtin.append_, run_underlying ht, sizeOf, typeInfo, hi, Builtin.lenOf, hle, Builtin.firstCells, loadCells, loadCellsFrom, storeCells]
    split at h
    · simp at h
      obtain ⟨rfl, rfl⟩ := h
      obtain ⟨ad', cap', ex, _, hcap, _⟩ := hur.lst_inv
      exact Pure1.ok (a := a) (o := o) ⟨_, key _ _ _ ex hcap, .v hur⟩ hs nl
    · simp at h
      obtain ⟨rfl, rfl⟩ := h
      obtain ⟨b, k, ex, _, hcap, _⟩ := hur.sl_inv
      exact Pure1.ok (a := a) (o := o) ⟨_, key _ _ _ ex hcap, .v hur⟩ hs nl
    · cases h
  · rw [if_neg hm] at h
    have hm0 : 0 < m := by omega
    obtain ⟨q, rfl, hrq⟩ := hrd hm0
    obtain ⟨vn, hvn, hvnl, hvnr⟩ := hrq.list
    have hvnl' : vn.length = m * i.size := by omega
    -- a move
    have mv : ∀ (n old : Nat) (ad' : Option Addr) (os : List AV) (vo : List Value), a.eval x' = .slice ad' n old → old < n + m → CL c w os vo → os.length = n * i.size → (∀ b, ad' = some b → ∀ j v, vo[j]? = some v → w.cell? (b.add j) = some v) →
        (ad' = none → n = 0 ∧ old = 0) → (n + m) * i.bytes ≤ room → n + m ≤ room →
        (execOp a.eval o).run P w = .ok (.value (.slice (some ⟨w.heap.size, 0, none⟩) (n + m) (grownCap w (n + m) old e))) (w.drew.alloc (.cells (vo.toArray ++ vn.toArray ++ Builtin.zeroCells z.cells (grownCap w (n + m) old e - (n + m))) e)) := by
      intro n old ad' os vo ex hold hvo hol hrdo hnone hby hnm
      have hvol := hvo.len
      cases ad' with
      | none =>
        obtain ⟨rfl, rfl⟩ := hnone rfl
        have hvo0 : vo = [] := List.eq_nil_of_length_eq_zero (by omega)
        subst hvo0
        have := run_append_nil (P := P) w t o.type e i z ht hi hz' q m cap vn hvnl' hvnr hm0 (by omega) (by have := hby; simp only [Nat.zero_add] at this; omega)
        simp only [Nat.zero_add] at this ⊢
        simp [execOp, ho, resolve, invoke, builtin, ex, ey, this]
      | some b =>
        have := run_append_grow (P := P) w t o.type e i z ht hi hz' b n old vo (by omega) (hrdo b rfl) q m cap vn hvnl' hvnr hold (by omega) (growslice_fits hold (by omega))
        simp [execOp, ho, resolve, invoke, builtin, ex, ey, this]
    split at h
    · -- a list
      rename_i nlq ex n cs
      split at h
      case isFalse => cases h
      rename_i hcnd
      obtain ⟨rfl, hcl, hby, hnm⟩ := hcnd
      simp at h
      obtain ⟨rfl, rfl⟩ := h
      obtain ⟨ad', cap', exx, _, hcap, _, hexact, hp, hrdc, hnone⟩ := hur.lst_inv
      have hcap' : cap' = n := hexact rfl
      subst hcap'
      obtain ⟨vo, hvo, hvor⟩ : ∃ vo, CL c w cs vo ∧ ∀ b, ad' = some b → ∀ j v, vo[j]? = some v → w.cell? (b.add j) = some v := by
        cases ad' with
        | none => exact ⟨[], by rw [hnone rfl]; exact CL.nil c w, by simp⟩
        | some b =>
          obtain ⟨vo, h1, _, h2⟩ := ((hrdc b rfl).2).list
          exact ⟨vo, h1, fun b' e => by cases e; exact h2⟩
      have hn0 : ad' = none → cap' = 0 ∧ cap' = 0 := fun e => by
        have : ¬ 0 < cap' := fun h => by have := hp h; rw [e] at this; cases this
        omega
      exact grown_ok hs hes hz (by omega) hvo hvn hcl hnl nl (mv cap' cap' ad' cs vo exx (by omega) hvo hcl hvor hn0 hby hnm)
    · -- a slice of append's own
      rename_i es' id ver off n
      split at h
      case h_2 => cases h
      rename_i u e2 g cs hob
      split at h
      case isFalse => cases h
      rename_i hcnd
      obtain ⟨rfl, rfl, rfl, rfl, rfl, hcl, hby, hnm⟩ := hcnd
      simp at h
      obtain ⟨rfl, rfl⟩ := h
      obtain ⟨b, k, exx, hb, hcap, hmx, _⟩ := hur.sl_inv
      simp only [Option.getD_none] at exx hcap hmx
      have hobj := hs.hr.obj _ _ _ _ hb
      rw [hob] at hobj
      obtain ⟨⟨cur, e3, hh, vs, rest, hcur, hl⟩, _, cur', hh', hsz, _⟩ := hobj rfl
      rw [hh] at hh'
      simp at hh'
      obtain ⟨rfl, rfl⟩ := hh'
      have hwn : own st id u := by unfold own; rw [hob]
      have hid := hs.hr.dom _ _ _ hb
      have hnone : c.bt id (u + 1) = none := by
        cases e : c.bt id (u + 1) with
        | none => rfl
        | some x => have := hs.hr.fut _ _ _ e _ _ _ hob; omega
      have hfut : ∀ v x, c.bt id v = some x → v ≤ u + 1 := fun v x e => by have := hs.hr.fut _ _ _ e _ _ _ hob; omega
      have hown : ∀ v, own (mods st id (.cells (u + 1) (some (e3, i.size)) (cs ++ new))) id v ↔ v = u + 1 := by intro v; simp [own, mods, hid, eq_comm]
      have hfz : ¬ c.fz b := fun h => hs.hr.fzo b h ⟨id, u, k, hwn, hb⟩
      have hvl := hl.len
      have hblt := hs.hr.lt _ _ _ _ hb
      by_cases hroom : n + m ≤ k
      · have hfit : n * i.size + vn.length ≤ cur.size := by rw [hvnl', hsz, ← Nat.add_mul]; exact Nat.mul_le_mul_right _ hroom
        have hr := run_append_room (P := P) w t o.type e3 i ht hi b n k cur hh q m cap vn hvnl' hvnr hvn.one hroom hfit
        generalize hnr : (cur.toList.take (n * i.size) ++ vn ++ cur.toList.drop (n * i.size + vn.length)).toArray = nr at hr
        have hnrs : nr.size = cur.size := by
          rw [← hnr]
          simp only [List.size_toArray, List.length_append, List.length_take, List.length_drop, Array.length_toList]
          omega
        have hle := Cf.le_put (c := c) (id := id) (v := u + 1) (b := b) (k := k) (.inl hnone)
        have hk : ∀ y, c.fz y → (w.setRow b nr).heap[y]? = w.heap[y]? := fun y hy => setRow_other w _ y nr (fun e => hfz (e ▸ hy))
        obtain ⟨hs', g⟩ := hs.wr (o := .cells (u + 1) (some (e3, i.size)) (cs ++ new)) (ver' := u + 1) (b' := b) (k' := k) (w' := w.setRow b nr) hwn hb (.inl hnone) (.inl rfl) (by rw [setRow_size]; exact hblt) (fun x _ hx => setRow_other w _ x nr hx)
          (by rw [setRow_size]; exact Nat.le_refl _) rfl rfl rfl hown
          (fun _ => ⟨⟨nr, e3, setRow_heap w b cur nr e3 _ hh, vs ++ vn, cur.toList.drop (n * i.size + vn.length), by
            rw [← hnr, hcur]
            congr 2
            simp only []
            rw [← hcl, ← hvl, List.take_left], (hl.append hvn).mono hle hk⟩, hes, nr, setRow_heap w b cur nr e3 _ hh, by omega, hmx⟩) (fun _ _ _ _ => hfut)
        exact ⟨_, _, _, lam, .inl (by simp [execOp, ho, resolve, invoke, builtin, exx, ey, hr]), hs', g, .v (VR.mk_sl0 (c.put_new _ _ _ _) hroom hmx), .inl rfl⟩
      · have hlt : k < n + m := by omega
        have hrd0 : ∀ b', some (⟨b, 0, none⟩ : Addr) = some b' → ∀ j v, vs[j]? = some v → w.cell? (b'.add j) = some v := by
          intro b' e j v hj
          cases e
          rw [add_flat]
          have : (vs ++ rest)[0 + j]? = some v := by rw [Nat.zero_add, List.getElem?_append_left (List.getElem?_eq_some_iff.1 hj).1]; exact hj
          simp only [Nat.zero_add] at this ⊢
          simp [World.cell?, hh, hcur, this]
        have hr := mv n k (some ⟨b, 0, none⟩) cs vs exx hlt hl hcl hrd0 (by simp) hby hnm
        have hge := grownCap_ge w (n + m) k e3
        have hcm := grownCap_le_maxLen w (n + m) k e3 (by omega)
        generalize hw' : w.drew.alloc (.cells (vs.toArray ++ vn.toArray ++ Builtin.zeroCells z.cells (grownCap w (n + m) k e3 - (n + m))) e3) = w' at hr
        have g : Grew w w' (.cells (vs.toArray ++ vn.toArray ++ Builtin.zeroCells z.cells (grownCap w (n + m) k e3 - (n + m))) e3) := hw' ▸ Grew.drewAlloc w _
        have hle := Cf.le_put (c := c) (id := id) (v := u + 1) (b := w.heap.size) (k := grownCap w (n + m) k e3) (.inl hnone)
        have hk : ∀ y, c.fz y → w'.heap[y]? = w.heap[y]? := fun y hy => g.old (hs.hr.fzl y hy)
        have hnsz : (vs.toArray ++ vn.toArray ++ Builtin.zeroCells z.cells (grownCap w (n + m) k e3 - (n + m))).size = grownCap w (n + m) k e3 * i.size := by
          simp only [Array.size_append, List.size_toArray, size_zeroCells, hz, hvnl', hvl, hcl, ← Nat.add_mul]
          congr 1
          omega
        obtain ⟨hs', gg⟩ := hs.wr (o := .cells (u + 1) (some (e3, i.size)) (cs ++ new)) (ver' := u + 1) (b' := w.heap.size) (k' := grownCap w (n + m) k e3) (w' := w') hwn hb (.inl hnone) (.inr (Nat.le_refl _)) (by rw [g.size]; omega) (fun x hx _ => g.old hx)
          (by rw [g.size]; omega) g.os g.tape g.output hown
          (fun _ => ⟨⟨_, e3, g.new, vs ++ vn, (Builtin.zeroCells z.cells (grownCap w (n + m) k e3 - (n + m))).toList, by apply Array.ext'; simp, (hl.append hvn).mono hle hk⟩, hes, _, g.new, hnsz, hcm⟩) (fun _ _ _ _ => hfut)
        exact ⟨_, _, _, lam, .inl hr, hs', gg, .v (VR.mk_sl0 (c.put_new _ _ _ _) hge hcm), .inl rfl⟩
    · -- a slice whose room is known
      rename_i es' id ver off n cq
      split at h
      case h_2 => cases h
      rename_i u gr cs hob
      split at h
      case isFalse => cases h
      rename_i hcnd
      obtain ⟨rfl, rfl, hfit0, hncq, hby, hnm⟩ := hcnd
      obtain ⟨b, k, exx, hb, hcap, hmx, _⟩ := hur.sl_inv
      simp only [Option.getD_some] at exx hcap hmx
      have hobj := hs.hr.obj _ _ _ _ hb
      rw [hob] at hobj
      obtain ⟨⟨cur, e3, hh, vs, rest, hcur, hl⟩, hG⟩ := hobj rfl
      have hwn : own st id u := by unfold own; rw [hob]
      have hid := hs.hr.dom _ _ _ hb
      have hfz : ¬ c.fz b := fun h => hs.hr.fzo b h ⟨id, u, k, hwn, hb⟩
      have hvl := hl.len
      have hblt := hs.hr.lt _ _ _ _ hb
      split at h
      · rename_i hroom
        simp at h
        obtain ⟨rfl, rfl⟩ := h
        have hmul : (n + m) * i.size ≤ cq * i.size := Nat.mul_le_mul_right _ hroom
        rw [Nat.add_mul] at hmul
        have hcs : cur.size = vs.length + rest.length := by rw [hcur]; simp
        have hr := run_append_room_off (P := P) (w := w) t o.type e i ht hi b off n cq e3 cur hh q m cap vn hvnl' hvnr hvn.one hroom (by omega)
        generalize hnr : (cur.toList.take (off + n * i.size) ++ vn ++ cur.toList.drop (off + n * i.size + vn.length)).toArray = nr at hr
        have hnrs : nr.size = cur.size := by
          rw [← hnr]
          simp only [List.size_toArray, List.length_append, List.length_take, List.length_drop, Array.length_toList]
          omega
        have hk : ∀ y, c.fz y → (w.setRow b nr).heap[y]? = w.heap[y]? := fun y hy => setRow_other w _ y nr (fun e => hfz (e ▸ hy))
        have hself := Cf.put_self hb
        have hgr : GrowR (w.setRow b nr) b k gr := by
          cases gr with
          | none => trivial
          | some q =>
            obtain ⟨e, es⟩ := q
            obtain ⟨g0, cur', hh', g1, g2⟩ := hG
            rw [hh] at hh'
            simp at hh'
            obtain ⟨rfl, rfl⟩ := hh'
            exact ⟨g0, nr, setRow_heap w b cur nr e3 _ hh, by omega, g2⟩
        obtain ⟨hs', g⟩ := hs.wr (o := .cells u gr (splice cs (off + n * i.size) new)) (ver' := u) (b' := b) (k' := k) (w' := w.setRow b nr) hwn hb (.inr hb) (.inl rfl) (by rw [setRow_size]; exact hblt) (fun x _ hx => setRow_other w _ x nr hx)
          (by rw [setRow_size]; exact Nat.le_refl _) rfl rfl rfl (by intro v; simp [own, mods, hid, eq_comm])
          (by
            rw [hself]
            refine fun _ => ⟨⟨nr, e3, setRow_heap w b cur nr e3 _ hh, vs.take (off + n * i.size) ++ vn ++ vs.drop (off + n * i.size + vn.length), rest, ?_, (hl.splice hvn _).mono (Cf.le_refl c) hk⟩, hgr⟩
            rw [← hnr, hcur]
            simp only [List.append_assoc]
            congr 1
            rw [List.take_append_of_le_length (by omega), List.drop_append_of_le_length (by omega)]) (fun _ _ _ _ v x e => hs.hr.fut _ _ _ e _ _ _ hob)
        rw [hself] at hs' g
        exact ⟨_, _, _, lam, .inl (by simp [execOp, ho, resolve, invoke, builtin, exx, ey, hr]), hs', g, .v (VR.mk_sl hb hroom hmx), .inl rfl⟩
      · rename_i hroom
        simp at h
        obtain ⟨rfl, rfl⟩ := h
        have hmul : n * i.size ≤ cq * i.size := Nat.mul_le_mul_right _ hncq
        have hrdo := (Reads.of_blk (off := off) hh hcur hl).take (n * i.size)
        obtain ⟨vo, hvo, _, hvor⟩ := hrdo.list
        exact grown_ok hs hes hz (by omega) hvo hvn (by simp; omega) hnl nl (mv n cq (some ⟨b, off, none⟩) _ vo exx (by omega) hvo (by simp; omega) (fun b' e => by cases e; exact hvor) (by simp) hby hnm)
    · cases h
end
end Go.Proofs.AM

namespace Go.Proofs.AM
open Go

def nlOf (o : AOp) (d : Nat) : Option Nat :=
  match o with
  | .new true _ | .box true _ | .mks true .. => some d
  | _ => none
def isCall : AOp → Bool
  | .call .. => true
  | _ => false

section
variable {P : Program} {E : Env} {inv : Inv} {c0 : Cf} {st0 : St} {w0 : World} {mk : List Nat} {c : Cf} {st : St} {w : World} {lam : Nat → Nat} {bs : Bxs} {ts : List (Nat × TV)} {a : Act}

theorem sim_op (hs : SR P E c0 st0 w0 mk c st w lam bs) (hts : TS c w lam ts a.tmps) {o : Oper} {op : AOp} (hok : okOp P op o.op = true) (hnc : isCall op = false) {d : Nat} {tv : TV} {bs' : Bxs} {st' : St} (h : ev E inv d ts bs st op = some (tv, bs', st')) :
    OpOk P E c0 st0 w0 mk c st w lam bs a o (nlOf op d) tv bs' st' := by
  cases op with
  | mov x =>
    simp only [ev] at h
    split at h <;> simp at h
    rename_i t e
    obtain ⟨rfl, rfl, rfl⟩ := h
    exact (sim_mov hts hok e).ok hs _
  | pick x y z =>
    simp only [ev] at h
    split at h
    · rename_i q e
      split at h
      · rename_i t e1
        split at h <;> simp at h
        rename_i u e2
        obtain ⟨rfl, rfl, rfl⟩ := h
        refine (sim_pick hts hok e ?_).ok hs _
        cases q
        · exact e2
        · exact e1
      · cases h
    · cases h
  | new lc zero =>
    simp only [ev, Option.some.injEq, Prod.mk.injEq] at h
    have := sim_new (a := a) (d := d) hs hok
    rw [h] at this
    cases lc <;> exact this
  | box lc x =>
    simp only [ev] at h
    split at h
    · rename_i v hv
      split at h
      · rename_i cs hc
        simp only [Option.some.injEq] at h
        have := sim_box (d := d) hs hts hok hv hc
        rw [h] at this
        cases lc <;> exact this
      · cases h
    · cases h
  | build zero ps =>
    simp only [ev] at h
    split at h <;> simp at h
    rename_i cs e
    obtain ⟨rfl, rfl, rfl⟩ := h
    exact (sim_build hts hok e).ok hs _
  | bslice pu es len zero ps =>
    simp only [ev] at h
    split at h
    · rename_i cs e
      have := sim_bslice hs hts hok e (nlOf (.bslice pu es len zero ps) d)
      cases pu with
      | true => simp at h this ⊢; obtain ⟨rfl, rfl, rfl⟩ := h; exact this
      | false => simp at h this ⊢; obtain ⟨rfl, rfl, rfl⟩ := h; exact this
    · cases h
  | load ag n x =>
    simp only [ev] at h
    split at h
    · rename_i p hp
      split at h
      · rename_i cs hc
        split at h <;> simp at h
        rename_i v hv
        obtain ⟨rfl, rfl, rfl⟩ := h
        exact (sim_load hs hts hok hp hc hv).ok hs _
      · cases h
    · cases h
  | store n x y =>
    simp only [ev] at h
    split at h
    · rename_i p hp
      split at h
      · rename_i v hv
        split at h <;> simp at h
        rename_i b' s' e
        obtain ⟨rfl, rfl, rfl⟩ := h
        exact sim_store hs hts hok hp hv e _
      · cases h
    · cases h
  | faddr off x =>
    simp only [ev] at h
    split at h
    · rename_i p hp
      split at h <;> simp at h
      rename_i q hq
      obtain ⟨rfl, rfl, rfl⟩ := h
      exact (sim_faddr hts hok hp hq).ok hs _
    · cases h
  | iaddr es x i =>
    simp only [ev] at h
    split at h
    · rename_i v hv
      split at h
      · rename_i j hj
        split at h <;> simp at h
        rename_i q hq
        obtain ⟨rfl, rfl, rfl⟩ := h
        exact (sim_iaddr hts hok hv hj hq).ok hs _
      · cases h
    · cases h
  | aaddr es len x i =>
    simp only [ev] at h
    split at h
    · rename_i p hp
      split at h
      · rename_i j hj
        split at h
        · rename_i hb
          split at h <;> simp at h
          rename_i q hq
          obtain ⟨rfl, rfl, rfl⟩ := h
          exact (sim_aaddr hts hok hp hj hb.1 hb.2 hq).ok hs _
        · cases h
      · cases h
    · cases h
  | field ag off n x =>
    simp only [ev] at h
    split at h
    · rename_i cs hv
      split at h <;> simp at h
      rename_i v e
      obtain ⟨rfl, rfl, rfl⟩ := h
      exact (sim_field hts hok hv e).ok hs _
    · cases h
  | index ag es len x i =>
    simp only [ev] at h
    split at h
    · rename_i cs hv
      split at h
      · rename_i j hj
        split at h
        · rename_i hb
          split at h <;> simp at h
          rename_i v e
          obtain ⟨rfl, rfl, rfl⟩ := h
          exact (sim_index hts hok hv hj hb.1 hb.2 e).ok hs _
        · cases h
      · cases h
    · cases h
  | un op x =>
    simp only [ev] at h
    split at h
    · rename_i v hv
      split at h <;> simp at h
      rename_i r e
      obtain ⟨rfl, rfl, rfl⟩ := h
      exact (sim_un hts hok hv e).ok hs _
    · cases h
  | bin op x y =>
    simp only [ev] at h
    split at h
    · rename_i u hu
      split at h
      · rename_i v hv
        split at h <;> simp at h
        rename_i r e
        obtain ⟨rfl, rfl, rfl⟩ := h
        exact (sim_bin hts hok hu hv e).ok hs _
      · cases h
    · cases h
  | eqb neq x y =>
    simp only [ev] at h
    split at h
    · rename_i p hu
      split at h
      · rename_i q hv
        simp only [Option.some.injEq, Prod.mk.injEq] at h
        obtain ⟨rfl, rfl, rfl⟩ := h
        exact (sim_eqb hts hok hu hv).ok hs _
      · cases h
    · cases h
  | eqs neq sg x y =>
    simp only [ev] at h
    split at h
    · rename_i p hu
      split at h
      · rename_i q hv
        split at h <;> simp at h
        rename_i r e
        obtain ⟨rfl, rfl, rfl⟩ := h
        exact (sim_eqs hts hok hu hv e).ok hs _
      · cases h
    · cases h
  | len x =>
    simp only [ev] at h
    split at h
    · rename_i v hv
      split at h <;> simp at h
      rename_i r e
      obtain ⟨rfl, rfl, rfl⟩ := h
      exact (sim_len hts hok hv e).ok hs _
    · cases h
  | mm mx x xs =>
    simp only [ev] at h
    split at h
    · rename_i u hu
      split at h
      · rename_i vs hv
        split at h <;> simp at h
        rename_i r e
        obtain ⟨rfl, rfl, rfl⟩ := h
        exact (sim_mm hts hok hu hv e).ok hs _
      · cases h
    · cases h
  | app es e bytes x y =>
    simp only [ev] at h
    split at h
    · rename_i u hu
      split at h
      · rename_i v hv
        split at h <;> simp at h
        rename_i r s' e'
        obtain ⟨rfl, rfl, rfl⟩ := h
        exact sim_app hs hts hok hu hv e' _
      · cases h
    · cases h
  | mks lc es bytes zero x y =>
    simp only [ev] at h
    split at h
    · rename_i n hn
      split at h
      · rename_i k hk
        split at h
        · rename_i hb
          have := sim_mks (d := d) hs hts hok hn hk hb.1 hb.2.1 hb.2.2.1 hb.2.2.2
          cases lc with
          | true => simp at h this ⊢; obtain ⟨rfl, rfl, rfl⟩ := h; exact this
          | false => simp at h this ⊢; obtain ⟨rfl, rfl, rfl⟩ := h; exact this
        · cases h
      · cases h
    · cases h
  | mkm =>
    simp only [ev, Option.some.injEq, Prod.mk.injEq] at h
    obtain ⟨rfl, rfl, rfl⟩ := h
    exact sim_mkm hs hok _
  | look sg zero okq m k =>
    simp only [ev] at h
    split at h
    · rename_i id hm
      split at h
      · rename_i kc hk
        split at h
        · rename_i hl
          split at h
          · rename_i es he
            split at h <;> simp at h
            rename_i r e
            obtain ⟨rfl, rfl, rfl⟩ := h
            exact (sim_look hs hts hok hm hk hl he e).ok hs _
          · cases h
        · cases h
      · cases h
    · cases h
  | upd sg m k v =>
    simp only [ev] at h
    split at h
    · rename_i id hm
      split at h
      · rename_i kc hk
        split at h
        · rename_i hl
          split at h
          · rename_i u hv
            split at h
            · rename_i es he
              split at h <;> simp at h
              rename_i es' e
              obtain ⟨rfl, rfl, rfl⟩ := h
              exact sim_upd hs hts hok hm hk hl hv he e _
            · cases h
          · cases h
        · cases h
      · cases h
    · cases h
  | slc es x lo hi mx =>
    simp only [ev] at h
    split at h
    · rename_i u hu
      split at h
      · rename_i l hl
        split at h
        · rename_i hh hhi
          split at h
          · rename_i m hm
            split at h <;> simp at h
            rename_i r e
            obtain ⟨rfl, rfl, rfl⟩ := h
            exact (sim_slc hts hok hu hl hhi hm e).ok hs _
          · cases h
        · cases h
      · cases h
    · cases h
  | mkf f fs cs =>
    simp only [ev] at h
    split at h
    · rename_i us hu
      split at h <;> simp at h
      rename_i vs hv
      obtain ⟨rfl, rfl, rfl⟩ := h
      exact (sim_mkf hts hok hu hv).ok hs _
    · cases h
  | ext i x =>
    simp only [ev] at h
    split at h
    · rename_i vs hv
      split at h <;> simp at h
      rename_i u e
      obtain ⟨rfl, rfl, rfl⟩ := h
      exact (sim_ext hts hok hv e).ok hs _
    · cases h
  | call raw fz f args => simp [isCall] at hnc
end
end Go.Proofs.AM

namespace Go.Proofs.AM
open Go

/-- Values that stand for some values, one by one. -/
def VL (c : Cf) (w : World) (as : List AV) (vs : List Value) : Prop := vs.length = as.length ∧ ∀ k (h : k < as.length), VR c w (as[k]'h) (vs.getD k undef)
theorem VL.mono {c c' : Cf} {w w' : World} (hle : c.le c') (hw : ∀ b, c.fz b → w'.heap[b]? = w.heap[b]?) {as : List AV} {vs : List Value} (h : VL c w as vs) : VL c' w' as vs := ⟨h.1, fun k hk => (h.2 k hk).mono hle hw⟩

theorem mapS_spec {f : AV → Option (AV × List Nat)} : ∀ {vs vs' : List AV} {l : List Nat}, mapS f vs = some (vs', l) → vs'.length = vs.length ∧ ∀ k (h : k < vs.length) (h' : k < vs'.length), ∃ lk, f (vs[k]'h) = some (vs'[k]'h', lk) ∧ ∀ i ∈ lk, i ∈ l
  | [], vs', l, h => by simp [mapS] at h; obtain ⟨rfl, rfl⟩ := h; simp
  | v :: vs, vs', l, h => by
    simp only [mapS] at h
    split at h
    · rename_i v' l1 e
      split at h
      · rename_i us l2 e2
        simp at h
        obtain ⟨rfl, rfl⟩ := h
        obtain ⟨h1, h2⟩ := mapS_spec e2
        refine ⟨by simp [h1], fun k hk hk' => ?_⟩
        cases k with
        | zero => exact ⟨l1, e, fun i hi => List.mem_append_left _ hi⟩
        | succ k =>
          obtain ⟨lk, h3, h4⟩ := h2 k (Nat.lt_of_succ_lt_succ hk) (Nat.lt_of_succ_lt_succ hk')
          exact ⟨lk, h3, fun i hi => List.mem_append_right _ (h4 i hi)⟩
      · cases h
    · cases h

section
variable {P : Program} {E : Env} {c c' : Cf} {st : St} {w : World}

theorem mapS_VR {f : AV → Option (AV × List Nat)} {L : List Nat} (hf : ∀ v x v' l, VR c w v x → f v = some (v', l) → (∀ i ∈ l, i ∈ L) → VR c' w v' x) {vs vs' : List AV} {l : List Nat} (h : mapS f vs = some (vs', l)) (hL : ∀ i ∈ l, i ∈ L) {g : Nat → Value}
    (hr : ∀ k (h : k < vs.length), VR c w (vs[k]'h) (g k)) : vs'.length = vs.length ∧ ∀ k (h : k < vs'.length), VR c' w (vs'[k]'h) (g k) := by
  obtain ⟨h1, h2⟩ := mapS_spec h
  refine ⟨h1, fun k hk => ?_⟩
  obtain ⟨lk, h3, h4⟩ := h2 k (by omega) hk
  exact hf _ _ _ _ (hr k (by omega)) h3 (fun i hi => hL i (h4 i hi))
theorem Reads.fn {ad : Addr} {cs : List AV} (h : Reads c w ad cs) : ∃ cv : Nat → Value, (∀ k, k < cs.length → w.cell? (ad.add k) = some (cv k) ∧ (cv k).oneCell' = true) ∧ ∀ k (h : k < cs.length), VR c w (cs[k]'h) (cv k) := by
  obtain ⟨vs, hl, hc⟩ := h
  refine ⟨fun k => vs.getD k undef, fun k hk => ?_, fun k hk => hl.rel k hk⟩
  have hk' : k < vs.length := by rw [hl.len]; exact hk
  have e : vs[k]? = some (vs.getD k undef) := by simp [List.getD_eq_getElem?_getD, List.getElem?_eq_getElem hk']
  exact ⟨hc k _ e, hl.one _ (List.mem_of_getElem? e)⟩

theorem settle_VR (hr : HR P E c w st) (s : Nat) (refs : Bool) (L : List Nat) (hbt : ∀ id ver x, id < s ∨ refs = true → c.bt id ver = some x → c'.bt id ver = some x) (hfz : ∀ b, c.fz b → c'.fz b)
    (hz : ∀ id v gr cs b k, id ∈ L → ¬ id < s → st.heap[id]? = some (.cells v gr cs) → c.bt id v = some (b, k) → c'.fz b) :
    ∀ (d : Nat) (v : AV) (x : Value) (v' : AV) (l : List Nat), VR c w v x → settle st.heap s refs d v = some (v', l) → (∀ i ∈ l, i ∈ L) → VR c' w v' x := by
  intro d
  induction d with
  | zero =>
    intro v x v' l hv h _
    simp only [settle] at h
    split at h
    · rename_i hs
      simp at h
      obtain ⟨rfl, rfl⟩ := h
      cases hv <;> simp [AV.scal] at hs
      · exact .bool _
      · exact .int _ _
      · exact .nilf
      · exact .nilm
      · exact .nilp
    · cases h
  | succ d ih =>
    intro v x v' l hv h hL
    -- a slice's cells
    have key : ∀ (es id off n : Nat) (cap : Option Nat) (b k : Nat) (cs cs' : List AV) (l0 : List Nat), c'.fz b → Reads c w ⟨b, off, none⟩ (cs.drop off) → mapS (settle st.heap s refs d) ((cs.drop off).take (n * es)) = some (cs', l0) → (∀ i ∈ l0, i ∈ L) →
        n ≤ cap.getD k → cap.getD k ≤ maxLen → VR c' w (.lst (some false) (cap == some n) n cs') (.slice (some ⟨b, off, none⟩) n (cap.getD k)) := by
      intro es id off n cap b k cs cs' l0 hb hrd hm hl0 hcap hmx
      obtain ⟨cv, h1, h2⟩ := (hrd.take (n * es)).fn
      obtain ⟨h3, h4⟩ := mapS_VR ih hm hl0 h2
      refine .lst (some false) (cap == some n) n cs' _ _ cv (by simp) hcap hmx (fun e => ?_) (fun _ => rfl) (fun j hj => ?_) h4
      · simp at e; subst e; rfl
      · obtain ⟨g1, g2⟩ := h1 j (by omega)
        exact ⟨_, rfl, hb, g1, g2⟩
    cases v with
    | bool b => simp only [settle] at h; simp at h; obtain ⟨rfl, rfl⟩ := h; cases hv; exact .bool _
    | int k n => simp only [settle] at h; simp at h; obtain ⟨rfl, rfl⟩ := h; cases hv; exact .int _ _
    | nilf => simp only [settle] at h; simp at h; obtain ⟨rfl, rfl⟩ := h; cases hv; exact .nilf
    | nilm => simp only [settle] at h; simp at h; obtain ⟨rfl, rfl⟩ := h; cases hv; exact .nilm
    | nilp => simp only [settle] at h; simp at h; obtain ⟨rfl, rfl⟩ := h; cases hv; exact .nilp
    | gref g o => simp only [settle] at h; simp at h; obtain ⟨rfl, rfl⟩ := h; cases hv; exact .gref _ _
    | lst nl ex n cs =>
      simp only [settle] at h
      split at h <;> simp at h
      rename_i cs' l0 hm
      obtain ⟨rfl, rfl⟩ := h
      cases hv with
      | lst nl ex n cs ad cap cv hnl hcap hmx hex hp hc hr =>
        obtain ⟨h3, h4⟩ := mapS_VR ih hm hL hr
        exact .lst nl ex n cs' ad cap cv hnl hcap hmx hex hp (fun k hk => let ⟨ad, e, hf, h1, h2⟩ := hc k (by omega); ⟨ad, e, hfz _ hf, h1, h2⟩) h4
    | sl es id ver off n cap =>
      simp only [settle] at h
      split at h
      · rename_i hlt
        simp at h
        obtain ⟨rfl, rfl⟩ := h
        cases hv with
        | sl es id ver off n cap b k hb hcap hmx hoff => exact .sl es id ver off n cap b k (hbt _ _ _ (.inl hlt) hb) hcap hmx hoff
      · rename_i hlt
        cases hv with
        | sl es id ver off n cap b k hb hcap hmx hoff =>
        have hobj := hr.obj _ _ _ _ hb
        split at h
        · rename_i u gr cs e
          rw [e] at hobj
          split at h
          · rename_i hcnd
            obtain ⟨rfl, hle⟩ := hcnd
            split at h <;> simp at h
            rename_i cs' l0 hm
            obtain ⟨rfl, rfl⟩ := h
            obtain ⟨⟨cur, e', hh, vs, rest, hcur, hl⟩, _⟩ := hobj rfl
            exact key es id off n cap b k cs cs' l0 (hz id u gr cs b k (hL id (by simp)) hlt e hb) (Reads.of_blk hh hcur hl off) hm (fun i hi => hL i (by simp [hi])) hcap hmx
          · cases h
        · rename_i u cs e
          rw [e] at hobj
          split at h
          · rename_i hcnd
            obtain ⟨rfl, hle⟩ := hcnd
            split at h <;> simp at h
            rename_i cs' l0 hm
            obtain ⟨rfl, rfl⟩ := h
            obtain ⟨hf, cur, e', fr, hh, vs, rest, hcur, hl⟩ := hobj rfl
            exact key es id off n cap b k cs cs' l0 (hfz _ hf) (Reads.of_blk hh hcur hl off) hm (fun i hi => hL i (by simp [hi])) hcap hmx
          · cases h
        · cases h
    | ref id ver off =>
      simp only [settle] at h
      split at h <;> simp at h
      rename_i hlt
      obtain ⟨rfl, rfl⟩ := h
      cases hv with
      | ref id ver off b k hb => exact .ref id ver off b k (hbt _ _ _ hlt hb)
    | map id =>
      simp only [settle] at h
      split at h <;> simp at h
      rename_i hlt
      obtain ⟨rfl, rfl⟩ := h
      cases hv with
      | map id b k hb => exact .map id b k (hbt _ _ _ hlt hb)
    | yld id =>
      simp only [settle] at h
      split at h <;> simp at h
      rename_i hlt
      obtain ⟨rfl, rfl⟩ := h
      cases hv with
      | yld id b k hb => exact .yld id b k (hbt _ _ _ hlt hb)
    | pl cs =>
      simp only [settle] at h
      split at h <;> simp at h
      rename_i cs' l0 hm
      obtain ⟨rfl, rfl⟩ := h
      cases hv with
      | pl cs ad cv hc hr =>
        obtain ⟨h3, h4⟩ := mapS_VR ih hm hL hr
        exact .pl cs' ad cv (fun k hk => let ⟨hf, h1, h2⟩ := hc k (by omega); ⟨hfz _ hf, h1, h2⟩) h4
    | fn f fs cs =>
      simp only [settle] at h
      split at h
      · rename_i fs' l1 hm1
        split at h <;> simp at h
        rename_i cs' l2 hm2
        obtain ⟨rfl, rfl⟩ := h
        cases hv with
        | fn f fs cs gs ds hf hc h1 h2 =>
          obtain ⟨k1, k2⟩ := mapS_VR (L := L) ih hm1 (fun i hi => hL i (by simp [hi])) h1
          obtain ⟨k3, k4⟩ := mapS_VR (L := L) ih hm2 (fun i hi => hL i (by simp [hi])) h2
          exact .fn f fs' cs' gs ds (by omega) (by omega) k2 k4
      · cases h
    | agg cs =>
      simp only [settle] at h
      split at h <;> simp at h
      rename_i cs' l0 hm
      obtain ⟨rfl, rfl⟩ := h
      cases hv with
      | agg cs vs hl h1 hr =>
        obtain ⟨h3, h4⟩ := mapS_VR ih hm hL hr
        exact .agg cs' vs (by omega) h1 h4
    | tup cs =>
      simp only [settle] at h
      split at h <;> simp at h
      rename_i cs' l0 hm
      obtain ⟨rfl, rfl⟩ := h
      cases hv with
      | tup cs vs hl hr =>
        obtain ⟨h3, h4⟩ := mapS_VR ih hm hL hr
        exact .tup cs' vs (by omega) h4

/-! ### Freezing -/
theorem frzAll_length : ∀ (l : List Nat) (h : List AObj), (frzAll h l).length = h.length
  | [], _ => rfl
  | id :: l, h => by
    simp only [frzAll]
    split
    · rw [frzAll_length l]; simp
    · exact frzAll_length l h
theorem frz1_frz1 (o : AObj) : frz1 (frz1 o) = frz1 o := by cases o <;> rfl
theorem frzAll_get : ∀ (l : List Nat) (h : List AObj) (id : Nat), (frzAll h l)[id]? = if id ∈ l then (h[id]?).map frz1 else h[id]?
  | [], h, id => by simp [frzAll]
  | j :: l, h, id => by
    simp only [frzAll]
    split
    · rename_i o e
      rw [frzAll_get l]
      by_cases hj : id = j
      · subst hj
        have hlt : id < h.length := (List.getElem?_eq_some_iff.1 e).1
        have e2 : (h.set id (frz1 o))[id]? = some (frz1 o) := by simp [hlt]
        simp only [e2, e, List.mem_cons, true_or, if_true, Option.map_some]
        split
        · rw [frz1_frz1]
        · rfl
      · rw [List.getElem?_set_ne (Ne.symm hj)]
        simp [hj]
    · rename_i e
      rw [frzAll_get l]
      by_cases hj : id = j
      · subst hj
        simp [e]
      · simp [hj]
/-- The blocks of the objects that are frozen. -/
def Cf.frzs (c : Cf) (st : St) (l : List Nat) : Cf := { c with fz := fun b => c.fz b ∨ ∃ id ∈ l, ∃ v gr cs k, st.heap[id]? = some (.cells v gr cs) ∧ c.bt id v = some (b, k) }
theorem own_frzs {l : List Nat} {id v : Nat} (h : own { st with heap := frzAll st.heap l } id v) : own st id v ∧ ¬ (id ∈ l ∧ ∃ u gr cs, st.heap[id]? = some (.cells u gr cs)) := by
  unfold own at h
  simp only [frzAll_get] at h
  by_cases hm : id ∈ l
  · rw [if_pos hm] at h
    cases e : st.heap[id]? with
    | none => rw [e] at h; simp at h
    | some o =>
      rw [e] at h
      cases o with
      | cells u gr cs => simp [frz1] at h
      | frz u cs => simp [frz1] at h
      | map es => refine ⟨by unfold own; rw [e]; simpa [frz1] using h, fun ⟨_, u, gr, cs, h'⟩ => by simp at h'⟩
      | loop _ _ _ _ _ => refine ⟨by unfold own; rw [e]; simpa [frz1] using h, fun ⟨_, u, gr, cs, h'⟩ => by simp at h'⟩
      | gone => simp [frz1] at h
  · rw [if_neg hm] at h
    exact ⟨h, fun h' => hm h'.1⟩
variable {c0 : Cf} {st0 : St} {w0 : World} {mk : List Nat} {lam : Nat → Nat} {bs : Bxs}
theorem SR.frzs (hs : SR P E c0 st0 w0 mk c st w lam bs) (l : List Nat) : SR P E c0 st0 w0 mk (c.frzs st l) { st with heap := frzAll st.heap l } w lam bs ∧ Stp c st w lam bs (c.frzs st l) { st with heap := frzAll st.heap l } w := by
  have hle : c.le (c.frzs st l) := ⟨fun _ _ _ h => h, fun _ h => .inl h⟩
  have hO : ∀ b, Owned (c.frzs st l) { st with heap := frzAll st.heap l } b → Owned c st b := fun b ⟨id, v, k, ho, hb⟩ => ⟨id, v, k, (own_frzs ho).1, hb⟩
  have hfz : ∀ b, (c.frzs st l).fz b → c.fz b ∨ Owned c st b := by
    rintro b (h | ⟨id, _, v, gr, cs, k, he, hb⟩)
    · exact .inl h
    · exact .inr ⟨id, v, k, by unfold own; rw [he], hb⟩
  have g : Stp c st w lam bs (c.frzs st l) { st with heap := frzAll st.heap l } w := ⟨hle, fun _ _ _ _ => rfl, fun b h => (hfz b h).elim .inl (fun h => .inr (.inl h)), fun b h => .inl (hO b h), Nat.le_refl _, rfl, rfl, rfl⟩
  refine ⟨hs.next g (fun _ _ _ => rfl) (fun _ _ => rfl) { dom := ?_, lt := ?_, obj := ?_, inj := ?_, fzo := ?_, fzl := ?_, glob := ?_, fut := ?_, tot := ?_ }, g⟩
  · intro id v x h
    simp only [frzAll_length]
    exact hs.hr.dom id v x h
  · exact hs.hr.lt
  · intro id v b k h
    have ho := (hs.hr.obj id v b k h).mono (c' := c.frzs st l) (w' := w) hle (fun _ _ => rfl) (fun _ => rfl)
    simp only [frzAll_get]
    by_cases hm : id ∈ l
    · rw [if_pos hm]
      cases e : st.heap[id]? with
      | none => trivial
      | some o =>
        rw [e] at ho
        cases o with
        | cells u gr cs =>
          intro hu
          obtain ⟨⟨cur, e', hh, vs, rest, hcur, hl⟩, _⟩ := ho hu
          subst hu
          exact ⟨.inr ⟨id, hm, u, gr, cs, k, e, h⟩, cur, e', _, hh, vs, rest, hcur, hl⟩
        | frz u cs => exact ho
        | map es => exact ho
        | loop _ _ _ _ _ => exact ho
        | gone => exact ho
    · rw [if_neg hm]; exact ho
  · intro i v i' v' b k k' h1 h2 e1 e2
    exact hs.hr.inj i v i' v' b k k' (own_frzs h1).1 (own_frzs h2).1 e1 e2
  · intro b hf ho
    rcases hf with hf | ⟨id, hm, v, gr, cs, k, he, hb⟩
    · exact hs.hr.fzo b hf (hO b ho)
    · obtain ⟨i, u, k', ho1, hb'⟩ := ho
      obtain ⟨h1, h2⟩ := own_frzs ho1
      have : i = id := hs.hr.inj i u id v b k' k h1 (by unfold own; rw [he]) hb' hb
      subst this
      exact h2 ⟨hm, v, gr, cs, he⟩
  · intro b hf
    rcases hf with hf | ⟨id, hm, v, gr, cs, k, he, hb⟩
    · exact hs.hr.fzl b hf
    · exact hs.hr.lt _ _ _ _ hb
  · intro gl cs e
    obtain ⟨h1, h2⟩ := hs.hr.glob gl cs e
    exact ⟨.inl h1, h2.mono hle (fun _ _ => rfl) rfl⟩
  · intro id v x h u gr cs he
    simp only [frzAll_get] at he
    by_cases hm : id ∈ l
    · rw [if_pos hm] at he
      cases e : st.heap[id]? with
      | none => rw [e] at he; simp at he
      | some o => rw [e] at he; cases o <;> simp [frz1] at he
    · rw [if_neg hm] at he
      exact hs.hr.fut id v x h u gr cs he
  · intro id v h
    refine hs.hr.tot id v ?_
    unfold cur at h ⊢
    simp only [frzAll_get] at h
    by_cases hm : id ∈ l
    · rw [if_pos hm] at h
      cases e : st.heap[id]? with
      | none => rw [e] at h; simp at h
      | some o => rw [e] at h; cases o <;> simpa [frz1] using h
    · rw [if_neg hm] at h; exact h
theorem SR.argsFz (hs : SR P E c0 st0 w0 mk c st w lam bs) {fz : Bool} {as as' : List AV} {st1 : St} (h : argsFz fz as st = some (as', st1)) : ∃ c', SR P E c0 st0 w0 mk c' st1 w lam bs ∧ Stp c st w lam bs c' st1 w ∧ ∀ vs, VL c w as vs → VL c' w as' vs := by
  unfold AM.argsFz at h
  split at h
  · split at h
    · rename_i as2 l hm
      simp at h
      obtain ⟨rfl, rfl⟩ := h
      obtain ⟨hs', g⟩ := hs.frzs l
      refine ⟨_, hs', g, fun vs hv => ?_⟩
      obtain ⟨h1, h2⟩ := mapS_VR (settle_VR (c' := c.frzs st l) hs.hr 0 true l (fun _ _ _ _ h => h) (fun _ h => .inl h) (fun id v gr cs b k hm _ he hb => .inr ⟨id, hm, v, gr, cs, k, he, hb⟩) 8) hm (fun i hi => hi) hv.2
      exact ⟨by rw [h1]; exact hv.1, h2⟩
    · cases h
  · simp at h
    obtain ⟨rfl, rfl⟩ := h
    exact ⟨c, hs, (Gd.refl c st w).stp lam bs, fun _ h => h⟩
end
end Go.Proofs.AM

namespace Go.Proofs.AM
open Go

def Kept (n : Nat) (h h' : List AObj) : Prop := ∀ id, id < n → id < h.length → h'[id]? = h[id]? ∨ ∃ v gr cs, h[id]? = some (.cells v gr cs) ∧ h'[id]? = some (.frz v cs)
structure KS (st st' : St) : Prop where
  len : st.heap.length ≤ st'.heap.length
  low : st'.low ≤ st.low
  kept : Kept st'.low st.heap st'.heap
theorem KS.refl (st : St) : KS st st := ⟨Nat.le_refl _, Nat.le_refl _, fun _ _ _ => .inl rfl⟩
theorem Kept.trans {n : Nat} {a b d : List AObj} (hl : a.length ≤ b.length) (h : Kept n a b) (k : Kept n b d) : Kept n a d := by
  intro id hn ha
  rcases h id hn ha with h1 | ⟨v, gr, cs, h1, h2⟩ <;> rcases k id hn (by omega) with k1 | ⟨u, gr', cs', k1, k2⟩
  · exact .inl (k1.trans h1)
  · exact .inr ⟨u, gr', cs', h1 ▸ k1, k2⟩
  · exact .inr ⟨v, gr, cs, h1, k1.trans h2⟩
  · rw [h2] at k1; cases k1
theorem Kept.less {n m : Nat} {a b : List AObj} (h : Kept n a b) (hm : m ≤ n) : Kept m a b := fun id h1 h2 => h id (by omega) h2
theorem KS.trans {a b d : St} (h : KS a b) (k : KS b d) : KS a d := ⟨Nat.le_trans h.len k.len, Nat.le_trans k.low h.low, (h.kept.less k.low).trans h.len k.kept⟩
theorem KS.alloc (st : St) (o : AObj) : KS st (alloc st o) := ⟨by simp [AM.alloc], Nat.le_refl _, fun id _ hl => .inl (by simp only [AM.alloc]; rw [List.getElem?_append_left hl])⟩
theorem KS.mods (st : St) (id : Nat) (o : AObj) : KS st (mods st id o) := by
  refine ⟨by simp [AM.mods], Nat.min_le_left _ _, fun i hi _ => .inl ?_⟩
  simp only [AM.mods] at hi ⊢
  rw [List.getElem?_set_ne (by omega)]
theorem KS.frz (st : St) (l : List Nat) : KS st { st with heap := frzAll st.heap l } := by
  refine ⟨by simp [frzAll_length], Nat.le_refl _, fun i _ hl => ?_⟩
  simp only [frzAll_get]
  split
  · cases e : st.heap[i]? with
    | none => exact .inl rfl
    | some o =>
      cases o with
      | cells v gr cs => exact .inr ⟨v, gr, cs, rfl, rfl⟩
      | frz v cs => exact .inl rfl
      | map es => exact .inl rfl
      | loop _ _ _ _ _ => exact .inl rfl
      | gone => exact .inl rfl
  · exact .inl rfl
def KSI (inv : Inv) : Prop := ∀ raw c args st r st', inv raw c args st = some (r, st') → KS st st'

section
variable {E : Env} {inv : Inv}
theorem appA_KS {es e bytes : Nat} {x y r : AV} {st st' : St} (h : appA es e bytes x y st = some (r, st')) : KS st st' := by
  unfold appA at h
  split at h
  · split at h
    · split at h <;> simp at h
      · rw [← h.2]; exact KS.refl _
      · rw [← h.2]; exact KS.refl _
    · split at h
      · split at h <;> simp at h
        rw [← h.2]; exact KS.alloc _ _
      · split at h
        · split at h <;> simp at h
          rw [← h.2]; exact KS.mods _ _ _
        · cases h
      · split at h
        · split at h
          · split at h <;> simp at h
            · rw [← h.2]; exact KS.mods _ _ _
            · rw [← h.2]; exact KS.alloc _ _
          · cases h
        · cases h
      · cases h
  · cases h
theorem argsFz_KS {fz : Bool} {as as' : List AV} {st st' : St} (h : argsFz fz as st = some (as', st')) : KS st st' := by
  unfold argsFz at h
  split at h
  · split at h <;> simp at h
    rw [← h.2]; exact KS.frz _ _
  · simp at h; rw [← h.2]; exact KS.refl _
theorem storeA_KS {n : Nat} {p : TV} {v : AV} {bs bs' : Bxs} {st st' : St} (h : storeA n p v bs st = some (bs', st')) : KS st st' := by
  unfold storeA at h
  split at h
  · split at h
    · split at h
      · split at h
        · split at h <;> simp at h
          rw [← h.2]; exact KS.refl _
        · cases h
      · split at h
        · split at h <;> simp at h
          rw [← h.2]; exact KS.mods _ _ _
        · cases h
      · cases h
    · cases h
  · cases h
theorem ev_KS (hi : KSI inv) {d : Nat} {ts : List (Nat × TV)} {bs bs' : Bxs} {st st' : St} {op : AOp} {tv : TV} (h : ev E inv d ts bs st op = some (tv, bs', st')) : KS st st' := by
  have same : ∀ {x y : TV} {p q : Bxs} {s s' : St}, some (x, p, s) = some (y, q, s') → KS s s' := by
    intro x y p q s s' h; simp at h; rw [← h.2.2]; exact KS.refl _
  cases op <;> simp only [ev] at h
  case new lc zero =>
    cases lc <;> simp [newBox] at h
    · rw [← h.2.2]; exact KS.alloc _ _
    · rw [← h.2.2]; exact KS.refl _
  case box lc x =>
    split at h
    · split at h
      · cases lc <;> simp [newBox] at h
        · rw [← h.2.2]; exact KS.alloc _ _
        · rw [← h.2.2]; exact KS.refl _
      · cases h
    · cases h
  case bslice pu es len zero ps =>
    split at h
    · split at h <;> simp at h
      · rw [← h.2.2]; exact KS.refl _
      · rw [← h.2.2]; exact KS.alloc _ _
    · cases h
  case store n x y =>
    split at h
    · split at h
      · split at h
        · rename_i e
          simp at h; rw [← h.2.2]; exact storeA_KS e
        · cases h
      · cases h
    · cases h
  case app es e bytes x y =>
    split at h
    · split at h
      · split at h
        · rename_i e
          simp at h; rw [← h.2.2]; exact appA_KS e
        · cases h
      · cases h
    · cases h
  case mks lc es bytes zero x y =>
    split at h
    · split at h
      · split at h
        · split at h <;> simp at h
          · rw [← h.2.2]; exact KS.refl _
          · rw [← h.2.2]; exact KS.alloc _ _
        · cases h
      · cases h
    · cases h
  case mkm => simp at h; rw [← h.2.2]; exact KS.alloc _ _
  case upd sg m k v =>
    split at h
    · split at h
      · split at h
        · split at h
          · split at h
            · split at h <;> simp at h
              rw [← h.2.2]; exact KS.mods _ _ _
            · cases h
          · cases h
        · cases h
      · cases h
    · cases h
  case call raw fz f args =>
    split at h
    · split at h
      · split at h
        · split at h
          · rename_i e
            split at h
            · rename_i e2
              simp at h; rw [← h.2.2]; exact (argsFz_KS e).trans (hi _ _ _ _ _ _ e2)
            · cases h
          · cases h
        · cases h
      · cases h
    · cases h
  all_goals
    repeat' (split at h)
    all_goals first | exact same h | cases h
theorem stepO_KS (hi : KSI inv) {o : AO} {fr fr' : Fr} {st st' : St} (h : stepO E inv o fr st = some (fr', st')) : KS st st' := by
  unfold stepO at h
  split at h
  · split at h
    · rename_i e
      simp at h; rw [← h.2]; exact ev_KS hi e
    · cases h
  · simp at h; rw [← h.2]; exact KS.refl _
  · cases h
theorem opsA_KS (hi : KSI inv) : ∀ {os : List AO} {fr fr' : Fr} {st st' : St}, opsA E inv os fr st = some (fr', st') → KS st st'
  | [], fr, fr', st, st', h => by simp [opsA] at h; rw [← h.2]; exact KS.refl _
  | o :: os, fr, fr', st, st', h => by
    simp only [opsA] at h
    split at h
    · rename_i e
      exact (stepO_KS hi e).trans (opsA_KS hi h)
    · cases h
theorem KS.reLow {st st' : St} {n : Nat} (h : KS { st with low := n } st') : KS st { st' with low := min st.low st'.low } :=
  ⟨h.len, Nat.min_le_left _ _, h.kept.less (Nat.min_le_right _ _)⟩
theorem opsT_KS (hi : KSI inv) : ∀ {os : List AO} {fr fr' : Fr} {st st' : St} {l : List Tr}, opsT E inv os fr st = some (l, fr', st') → KS st st'
  | [], fr, fr', st, st', l, h => by simp [opsT] at h; rw [← h.2.2]; exact KS.refl _
  | o :: os, fr, fr', st, st', l, h => by
    simp only [opsT] at h
    split at h
    · rename_i e
      split at h
      · rename_i e2
        simp at h
        rw [← h.2.2]
        exact (KS.reLow (stepO_KS hi e)).trans (opsT_KS hi e2)
      · cases h
    · cases h
theorem regionA_KS (hi : KSI inv) {os : List AO} {af : Option (List (List Nat))} {fr fr' : Fr} {st st' : St} (h : regionA E inv os af fr st = some (fr', st')) : KS st st' := by
  unfold regionA at h
  split at h
  · exact opsA_KS hi h
  · split at h
    · rename_i e
      split at h <;> simp at h
      rw [← h.2]; exact opsT_KS hi e
    · cases h
theorem pubA_KS : ∀ {ss : List Nat} {fr fr' : Fr} {st st' : St}, pubA ss fr st = some (fr', st') → KS st st'
  | [], fr, fr', st, st', h => by simp [pubA] at h; rw [← h.2]; exact KS.refl _
  | s :: ss, fr, fr', st, st', h => by
    simp only [pubA] at h
    split at h
    · exact (KS.alloc _ _).trans (pubA_KS h)
    · cases h
theorem loopN_KS {f : Fr → St → Out} (hf : ∀ fr st e fr' st', f fr st = some (e, fr', st') → KS st st') : ∀ {k : Nat} {fr fr' : Fr} {st st' : St} {e : Ex}, loopN f k fr st = some (e, fr', st') → KS st st'
  | 0, _, _, _, _, _, h => by simp [loopN] at h
  | k + 1, fr, fr', st, st', e, h => by
    simp only [loopN] at h
    split at h
    · rename_i e1
      exact (hf _ _ _ _ _ e1).trans (loopN_KS hf h)
    · exact hf _ _ _ _ _ h
theorem evC_KS (hi : KSI inv) {k : Nat} : ∀ {ac : AC} {fr fr' : Fr} {st st' : St} {e : Ex}, evC E inv k ac fr st = some (e, fr', st') → KS st st' := by
  intro ac
  induction ac with
  | skip => intro fr fr' st st' e h; simp [evC] at h; rw [← h.2.2]; exact KS.refl _
  | ret => intro fr fr' st st' e h; simp [evC] at h; rw [← h.2.2]; exact KS.refl _
  | exit id => intro fr fr' st st' e h; simp [evC] at h; rw [← h.2.2]; exact KS.refl _
  | region ops af ks kb ps =>
    intro fr fr' st st' e h
    simp only [evC] at h
    split at h
    · rename_i e1
      split at h
      · rename_i e2
        simp at h; rw [← h.2.2]; exact (regionA_KS hi e1).trans (pubA_KS e2)
      · cases h
    · cases h
  | seq a b ha hb =>
    intro fr fr' st st' e h
    simp only [evC] at h
    split at h
    · rename_i e1
      exact (ha e1).trans (hb h)
    · exact ha h
  | cond c a b ha hb =>
    intro fr fr' st st' e h
    simp only [evC] at h
    split at h
    · exact ha h
    · exact hb h
    · cases h
  | block id b hb =>
    intro fr fr' st st' e h
    simp only [evC] at h
    split at h
    · rename_i e1
      split at h <;> simp at h
      · rw [← h.2.2]; exact hb e1
      · rw [← h.2.2]; exact hb e1
    · exact hb h
  | loop ks kb b hb =>
    intro fr fr' st st' e h
    simp only [evC] at h
    exact loopN_KS (fun fr st e fr' st' h => hb h) h
  | scope b hb =>
    intro fr fr' st st' e h
    simp only [evC] at h
    exact hb h
  | rfun x ps asg body _ _ =>
    intro fr fr' st st' e h
    simp only [evC] at h
    split at h
    · split at h
      · split at h
        · rename_i e1
          split at h
          · simp at h; rw [← h.2.2]; exact ((KS.alloc _ _).trans (hi _ _ _ _ _ _ e1)).trans (KS.mods _ _ _)
          · cases h
        · cases h
      · cases h
    · cases h
theorem finish_KS {raw : Bool} {st st1 : St} {v : AV} (h : KS { st with low := st.heap.length } st1) : KS st (finish raw st v st1).2 := by
  have h1 : st.heap.length ≤ st1.heap.length := h.len
  have h2 : st1.low ≤ st.heap.length := h.low
  have base : KS st { heap := st1.heap, low := min st.low st1.low } := ⟨h1, Nat.min_le_left _ _, h.kept.less (Nat.min_le_right _ _)⟩
  unfold finish
  split
  · rename_i hc
    split
    · refine ⟨by simp; omega, Nat.le_refl _, fun id hn hl => ?_⟩
      simp only [List.getElem?_take, if_pos hl]
      exact h.kept id (by omega) hl
    · exact base
  · exact base
theorem bodyA_KS {run : AC → Fr → St → Out} (hrun : ∀ ac fr st e fr' st', run ac fr st = some (e, fr', st') → KS st st') {raw : Bool} {cl : Cal} {args : List AV} {st st' : St} {r : AV} (h : bodyA E raw cl args st run = some (r, st')) : KS st st' := by
  unfold bodyA at h
  split at h
  · split at h
    · split at h
      · split at h
        · cases h
        · rename_i e1
          split at h
          · rename_i vs _
            simp at h
            have := finish_KS (raw := raw) (v := tupA vs) (hrun _ _ _ _ _ _ e1)
            rw [h] at this
            exact this
          · cases h
        · cases h
      · cases h
    · cases h
  · rename_i l
    split at h
    · rename_i ps asg body ts e0
      split at h
      · split at h
        · rename_i e1
          split at h
          · rename_i p1 a1 b1 t1 e2
            split at h
            · rename_i e3
              split at h
              · rename_i p2 a2 b2 t2 e4
                simp at h
                rw [← h.2]
                have k1 := hrun _ _ _ _ _ _ e1
                have k2 := hrun _ _ _ _ _ _ e3
                have l1 := k1.len
                have l2 := k2.len
                have w1 := k1.low
                have w2 := k2.low
                simp only [List.length_set] at l2 w2
                refine ⟨by simp only [List.length_set]; omega, by simp only; omega, fun id hn hid => ?_⟩
                simp only at hn
                by_cases hli : id = l
                · subst hli
                  left
                  simp only []
                  rw [List.getElem?_set_self (by omega), e0]
                  rcases k1.kept id (by omega) hid with g1 | ⟨v, gr, cs, g1, _⟩
                  · rw [e0, e2] at g1
                    simp only [Option.some.injEq, AObj.loop.injEq] at g1
                    rcases k2.kept id (by omega) (by simp only [List.length_set]; omega) with g2 | ⟨v, gr, cs, g2, _⟩
                    · simp only [] at g2
                      rw [List.getElem?_set_self (by omega), e4] at g2
                      simp only [Option.some.injEq, AObj.loop.injEq] at g2
                      obtain ⟨_, rfl, rfl, rfl, rfl⟩ := g1
                      obtain ⟨_, rfl, rfl, rfl, rfl⟩ := g2
                      rfl
                    · simp only [] at g2
                      rw [List.getElem?_set_self (by omega)] at g2
                      cases g2
                  · rw [e0] at g1; cases g1
                · simp only []
                  rw [List.getElem?_set_ne (Ne.symm hli)]
                  have c1 := k1.kept id (by omega) hid
                  have c2 := k2.kept id (by omega) (by simp only [List.length_set]; omega)
                  simp only [] at c2
                  rw [List.getElem?_set_ne (Ne.symm hli)] at c2
                  rcases c1 with c1 | ⟨v, gr, cs, c1, c3⟩ <;> rcases c2 with c2 | ⟨u, gr', cs', c2, c4⟩
                  · exact .inl (c2.trans c1)
                  · exact .inr ⟨u, gr', cs', c1 ▸ c2, c4⟩
                  · exact .inr ⟨v, gr, cs, c1, c2.trans c3⟩
                  · rw [c3] at c2; cases c2
              · cases h
            · cases h
          · cases h
        · cases h
      · cases h
    · cases h
theorem evF_KS (E : Env) : ∀ m, KSI (evF E m)
  | 0 => fun _ _ _ _ _ _ h => by simp [evF] at h
  | m + 1 => fun raw c args st r st' h => by
    simp only [evF] at h
    split at h
    · simp only [Option.some.injEq, Prod.mk.injEq] at h; rw [← h.2]; exact KS.refl _
    · exact bodyA_KS (run := evC E (evF E m) m) (fun ac fr st e fr' st' h => evC_KS (evF_KS E m) h) h
end

/-! ### At a return -/
section
variable {P : Program} {E : Env} {c c1 c' : Cf} {st st1 : St} {w w1 : World}
/-- What stood for a value before, and stands for one now, stands for it by what is told of the elder objects alone. -/
theorem VR.over (hbt : ∀ id ver x, c.bt id ver = some x → c1.bt id ver = some x → c'.bt id ver = some x) (hfz : ∀ b, c1.fz b → c'.fz b) {v : AV} {x : Value} (h : VR c1 w1 v x) : ∀ {y : Value}, VR c w v y → (hle : c.le c1) → VR c' w1 v x := by
  induction h with
  | bool b => intro y _ _; exact .bool b
  | int k n => intro y _ _; exact .int k n
  | nilf => intro y _ _; exact .nilf
  | nilm => intro y _ _; exact .nilm
  | nilp => intro y _ _; exact .nilp
  | lst nl ex n cs a cap cv hnl hcap hmx hex hp hc _ ih =>
    intro y hy hle
    cases hy with
    | lst _ _ _ _ a2 cap2 cv2 _ _ _ _ _ _ hr2 =>
    exact .lst nl ex n cs a cap cv hnl hcap hmx hex hp (fun k hk => let ⟨ad, e, hf, h1, h2⟩ := hc k hk; ⟨ad, e, hfz _ hf, h1, h2⟩) (fun k hk => ih k hk (hr2 k hk) hle)
  | sl es id ver off n cap b k hb hcap hmx hoff =>
    intro y hy hle
    cases hy with
    | sl _ _ _ _ _ _ b2 k2 hb2 _ _ _ =>
    have := hle.1 _ _ _ hb2
    rw [hb] at this; cases this
    exact .sl es id ver off n cap b k (hbt _ _ _ hb2 hb) hcap hmx hoff
  | ref id ver off b k hb =>
    intro y hy hle
    cases hy with
    | ref _ _ _ b2 k2 hb2 =>
    have := hle.1 _ _ _ hb2
    rw [hb] at this; cases this
    exact .ref id ver off b k (hbt _ _ _ hb2 hb)
  | gref g off => intro y _ _; exact .gref g off
  | pl cs ad cv hc _ ih =>
    intro y hy hle
    cases hy with
    | pl _ ad2 cv2 _ hr2 =>
    exact .pl cs ad cv (fun k hk => let ⟨hf, h1, h2⟩ := hc k hk; ⟨hfz _ hf, h1, h2⟩) (fun k hk => ih k hk (hr2 k hk) hle)
  | map id b k hb =>
    intro y hy hle
    cases hy with
    | map _ b2 k2 hb2 =>
    have := hle.1 _ _ _ hb2
    rw [hb] at this; cases this
    exact .map id b k (hbt _ _ _ hb2 hb)
  | fn f fs cs fs' cs' hf hc _ _ ih1 ih2 =>
    intro y hy hle
    cases hy with
    | fn _ _ _ gs ds _ _ h1 h2 =>
    exact .fn f fs cs fs' cs' hf hc (fun k hk => ih1 k hk (h1 k hk) hle) (fun k hk => ih2 k hk (h2 k hk) hle)
  | yld l b k hb =>
    intro y hy hle
    cases hy with
    | yld _ b2 k2 hb2 =>
    have := hle.1 _ _ _ hb2
    rw [hb] at this; cases this
    exact .yld l b k (hbt _ _ _ hb2 hb)
  | agg cs cs' hl h1 _ ih =>
    intro y hy hle
    cases hy with
    | agg _ ds _ _ hr2 =>
    exact .agg cs cs' hl h1 (fun k hk => ih k hk (hr2 k hk) hle)
  | tup cs cs' hl _ ih =>
    intro y hy hle
    cases hy with
    | tup _ ds _ hr2 =>
    exact .tup cs cs' hl (fun k hk => ih k hk (hr2 k hk) hle)
theorem CL.over (hbt : ∀ id ver x, c.bt id ver = some x → c1.bt id ver = some x → c'.bt id ver = some x) (hfz : ∀ b, c1.fz b → c'.fz b) (hle : c.le c1) {cs : List AV} {vs us : List Value} (h : CL c1 w1 cs vs) (k : CL c w cs us) : CL c' w1 cs vs :=
  ⟨h.len, h.one, fun j hj => (h.rel j hj).over hbt hfz (k.rel j hj) hle⟩

/-- What is known after a return: the elder objects; the call's own are frozen, or forgotten. -/
def Cf.cut (c1 : Cf) (n : Nat) (st1 : St) (lo hi : Nat) : Cf :=
  { bt := fun id v => if id < n then c1.bt id v else none
    fz := fun b => c1.fz b ∨ (lo ≤ b ∧ b < hi ∧ ¬ ∃ id v k, id < n ∧ own st1 id v ∧ c1.bt id v = some (b, k)) }
theorem cut_bt {n : Nat} {lo hi id v x y : Nat} (h : (c1.cut n st1 lo hi).bt id v = some (x, y)) : id < n ∧ c1.bt id v = some (x, y) := by
  simp only [Cf.cut] at h
  split at h
  · exact ⟨by assumption, h⟩
  · cases h
theorem finish_drop (hr : HR P E c w st) (hr1 : HR P E c1 w1 st1) (g : Gd c st w c1 st1 w1) (ks : KS { st with low := st.heap.length } st1) (hlow : st.heap.length ≤ st1.low) :
    HR P E (c1.cut st.heap.length st1 w.heap.size w1.heap.size) w1 { heap := st1.heap.take st.heap.length, low := st.low } ∧ Gd c st w (c1.cut st.heap.length st1 w.heap.size w1.heap.size) { heap := st1.heap.take st.heap.length, low := st.low } w1 := by
  have hget : ∀ id, id < st.heap.length → (st1.heap.take st.heap.length)[id]? = st1.heap[id]? := fun id h => by rw [List.getElem?_take, if_pos h]
  have hnone : ∀ id, ¬ id < st.heap.length → (st1.heap.take st.heap.length)[id]? = none := fun id h => by rw [List.getElem?_take, if_neg h]
  have hown : ∀ id v, own { heap := st1.heap.take st.heap.length, low := st.low } id v → id < st.heap.length ∧ own st1 id v := by
    intro id v h
    by_cases hl : id < st.heap.length
    · refine ⟨hl, ?_⟩
      unfold own at h ⊢
      simp only [hget id hl] at h
      exact h
    · unfold own at h
      simp only [hnone id hl] at h
  have hcur : ∀ id v, cur { heap := st1.heap.take st.heap.length, low := st.low } id v → id < st.heap.length ∧ cur st1 id v := by
    intro id v h
    by_cases hl : id < st.heap.length
    · refine ⟨hl, ?_⟩
      unfold cur at h ⊢
      simp only [hget id hl] at h
      exact h
    · unfold cur at h
      simp only [hnone id hl] at h
  have hO : ∀ b, Owned (c1.cut st.heap.length st1 w.heap.size w1.heap.size) { heap := st1.heap.take st.heap.length, low := st.low } b → (∃ id v k, id < st.heap.length ∧ own st1 id v ∧ c1.bt id v = some (b, k)) ∧ Owned c1 st1 b := by
    rintro b ⟨id, v, k, ho, hb⟩
    obtain ⟨h1, h2⟩ := hown id v ho
    exact ⟨⟨id, v, k, h1, h2, (cut_bt hb).2⟩, id, v, k, h2, (cut_bt hb).2⟩
  have hle : c.le (c1.cut st.heap.length st1 w.heap.size w1.heap.size) := by
    refine ⟨fun id v x e => ?_, fun b h => .inl (g.le.2 b h)⟩
    simp only [Cf.cut]
    rw [if_pos (hr.dom id v x e)]
    exact g.le.1 _ _ _ e
  have hbt : ∀ id ver x, c.bt id ver = some x → c1.bt id ver = some x → (c1.cut st.heap.length st1 w.heap.size w1.heap.size).bt id ver = some x := fun id ver x h _ => hle.1 _ _ _ h
  have hfz : ∀ b, c1.fz b → (c1.cut st.heap.length st1 w.heap.size w1.heap.size).fz b := fun b h => .inl h
  have hkeep := hr.keeps g
  have hsame : ∀ id, id < st.heap.length → st1.heap[id]? = st.heap[id]? ∨ ∃ v gr cs, st.heap[id]? = some (.cells v gr cs) ∧ st1.heap[id]? = some (.frz v cs) := fun id h => ks.kept id (by omega) h
  refine ⟨{ dom := ?_, lt := ?_, obj := ?_, inj := ?_, fzo := ?_, fzl := ?_, glob := ?_, fut := ?_, tot := ?_ }, { le := hle, frame := g.frame, fz := ?_, own := ?_, size := g.size, os := g.os, tape := g.tape, output := g.output }⟩
  · rintro id v ⟨x, y⟩ h
    have := ks.len
    simp only [List.length_take]
    have := (cut_bt h).1
    simp only at *
    omega
  · intro id v b k h
    exact hr1.lt _ _ _ _ (cut_bt h).2
  · intro id v b k h
    obtain ⟨hl, hb⟩ := cut_bt h
    simp only [hget id hl]
    have ho1 := hr1.obj _ _ _ _ hb
    -- the object at entry, where the version is its own
    have ent : cur st id v → c.bt id v = some (b, k) ∧ ObjR P c w b k v (st.heap[id]?) := by
      intro hc
      obtain ⟨⟨x, y⟩, hx⟩ := hr.tot id v hc
      have := g.le.1 _ _ _ hx
      rw [hb] at this
      cases this
      exact ⟨hx, hr.obj _ _ _ _ hx⟩
    rcases hsame id hl with e | ⟨u, gr, cs, e0, e1⟩
    · rw [e] at ho1 ⊢
      cases e2 : st.heap[id]? with
      | none => trivial
      | some o =>
        rw [e2] at ho1
        cases o with
        | cells u gr cs =>
          intro hu
          obtain ⟨⟨cur, e', hh, vs, rest, hcur, hcl⟩, hG⟩ := ho1 hu
          obtain ⟨_, ho⟩ := ent (by unfold AM.cur; rw [e2]; exact hu)
          rw [e2] at ho
          obtain ⟨⟨_, _, _, us, _, _, hcl0⟩, _⟩ := ho hu
          exact ⟨⟨cur, e', hh, vs, rest, hcur, hcl.over hbt hfz g.le hcl0⟩, hG⟩
        | frz u cs =>
          intro hu
          obtain ⟨hf, cur, e', fr, hh, vs, rest, hcur, hcl⟩ := ho1 hu
          obtain ⟨_, ho⟩ := ent (by unfold AM.cur; rw [e2]; exact hu)
          rw [e2] at ho
          obtain ⟨_, _, _, _, _, us, _, _, hcl0⟩ := ho hu
          exact ⟨hfz _ hf, cur, e', fr, hh, vs, rest, hcur, hcl.over hbt hfz g.le hcl0⟩
        | map es =>
          intro hu
          obtain ⟨ms, clock, hh, hml, hent⟩ := ho1 hu
          obtain ⟨_, ho⟩ := ent (by unfold AM.cur; rw [e2]; exact hu)
          rw [e2] at ho
          obtain ⟨ms0, _, _, hml0, hent0⟩ := ho hu
          refine ⟨ms, clock, hh, hml, fun j hj => ?_⟩
          obtain ⟨m, h1, h2, vs, h3, h4⟩ := hent j hj
          obtain ⟨m0, _, k2, us, _, k4⟩ := hent0 j hj
          exact ⟨m, h1, h2.over hbt hfz k2 g.le, vs, h3, h4.over hbt hfz g.le k4⟩
        | loop busy ps asg body ts =>
          intro hu
          obtain ⟨r, hh, h1, h2, h3, h4, h5, h8, h9, h6, h7⟩ := ho1 hu
          obtain ⟨_, ho⟩ := ent (by unfold AM.cur; rw [e2]; exact hu)
          rw [e2] at ho
          obtain ⟨r0, _, _, _, _, _, _, _, _, _, k7⟩ := ho hu
          refine ⟨r, hh, h1, h2, h3, h4, h5, h8, h9, h6, fun t tv et => ?_⟩
          obtain ⟨x, hx, hxr⟩ := h7 t tv et
          obtain ⟨y, _, hyr⟩ := k7 t tv et
          refine ⟨x, hx, fun lam => ?_⟩
          have t1 := hxr lam
          have t2 := hyr lam
          cases t1 with
          | v t1 => cases t2 with | v t2 => exact .v (t1.over hbt hfz t2 g.le)
          | loc s off => exact .loc s off
          | lsl s es n k hn hk => exact .lsl s es n k hn hk
          | und => exact .und
          | no => exact .no _
        | gone => trivial
    · rw [e1] at ho1 ⊢
      intro hu
      obtain ⟨hf, cur, e', fr, hh, vs, rest, hcur, hcl⟩ := ho1 hu
      obtain ⟨_, ho⟩ := ent (by unfold AM.cur; rw [e0]; exact hu)
      rw [e0] at ho
      obtain ⟨⟨_, _, _, us, _, _, hcl0⟩, _⟩ := ho hu
      exact ⟨hfz _ hf, cur, e', fr, hh, vs, rest, hcur, hcl.over hbt hfz g.le hcl0⟩
  · intro i v i' v' b k k' h1 h2 e1 e2
    exact hr1.inj i v i' v' b k k' (hown _ _ h1).2 (hown _ _ h2).2 (cut_bt e1).2 (cut_bt e2).2
  · intro b hf ho
    obtain ⟨h1, h2⟩ := hO b ho
    rcases hf with hf | ⟨_, _, hf⟩
    · exact hr1.fzo b hf h2
    · exact hf h1
  · intro b hf
    rcases hf with hf | ⟨_, hf, _⟩
    · exact hr1.fzl b hf
    · exact hf
  · intro gl cs e
    obtain ⟨h1, h2⟩ := hr.glob gl cs e
    exact ⟨hle.2 _ h1, h2.mono hle hkeep (hkeep _ h1)⟩
  · rintro id v ⟨x, y⟩ h u gr cs he
    obtain ⟨hl, hb⟩ := cut_bt h
    simp only [hget id hl] at he
    exact hr1.fut _ _ _ hb u gr cs he
  · intro id v h
    obtain ⟨hl, hc⟩ := hcur id v h
    obtain ⟨x, hx⟩ := hr1.tot id v hc
    refine ⟨x, ?_⟩
    simp only [Cf.cut]
    rw [if_pos hl]
    exact hx
  · intro b hf
    rcases hf with hf | ⟨hf, _, _⟩
    · exact g.fz b hf
    · exact .inr (.inr hf)
  · intro b ho
    exact g.own b (hO b ho).2
theorem finish_ok (hr : HR P E c w st) (hr1 : HR P E c1 w1 st1) (g : Gd c st w c1 st1 w1) (ks : KS { st with low := st.heap.length } st1) {raw : Bool} {v : AV} {x : Value} (hv : VR c1 w1 v x) {r : AV} {st' : St} (h : finish raw st v st1 = (r, st')) :
    ∃ c', HR P E c' w1 st' ∧ Gd c st w c' st' w1 ∧ VR c' w1 r x := by
  have base : ∃ c', HR P E c' w1 { heap := st1.heap, low := min st.low st1.low } ∧ Gd c st w c' { heap := st1.heap, low := min st.low st1.low } w1 ∧ VR c' w1 v x :=
    ⟨c1, ⟨hr1.dom, hr1.lt, hr1.obj, hr1.inj, hr1.fzo, hr1.fzl, hr1.glob, hr1.fut, hr1.tot⟩, ⟨g.le, g.frame, g.fz, g.own, g.size, g.os, g.tape, g.output⟩, hv⟩
  unfold finish at h
  split at h
  · rename_i hc
    split at h
    · rename_i v' l hset
      simp at h
      obtain ⟨rfl, rfl⟩ := h
      obtain ⟨h1, h2⟩ := finish_drop hr hr1 g ks hc.2
      refine ⟨_, h1, h2, settle_VR (c' := c1.cut st.heap.length st1 w.heap.size w1.heap.size) hr1 st.heap.length false l (fun id ver y hid hb => ?_) (fun b hb => .inl hb) (fun id u gr cs b k _ hid he hb => ?_) 8 v x v' l hv hset (fun i hi => hi)⟩
      · simp at hid
        simp only [Cf.cut]
        rw [if_pos hid]; exact hb
      · have hwn : own st1 id u := by unfold own; rw [he]
        refine .inr ⟨?_, hr1.lt _ _ _ _ hb, ?_⟩
        · rcases g.own b ⟨id, u, k, hwn, hb⟩ with ⟨i, v0, k0, ho, hb0⟩ | h
          · exfalso
            have hi := hr.dom _ _ _ hb0
            have hb1 := g.le.1 _ _ _ hb0
            rcases ks.kept i (by have := hc.2; omega) hi with e | ⟨v1, gr1, cs1, e0, e1⟩
            · have : own st1 i v0 := by
                unfold own at ho ⊢
                simp only at e
                rw [e]
                exact ho
              have := hr1.inj _ _ _ _ _ _ _ this hwn hb1 hb
              omega
            · have hv1 : v1 = v0 := by
                unfold own at ho
                simp only at e0
                rw [e0] at ho
                exact ho
              have hob := hr1.obj _ _ _ _ hb1
              rw [e1] at hob
              exact hr1.fzo b (hob hv1).1 ⟨id, u, k, hwn, hb⟩
          · exact h
        · rintro ⟨i, v0, k0, hi, ho, hb0⟩
          have := hr1.inj _ _ _ _ _ _ _ ho hwn hb0 hb
          omega
    · simp at h
      obtain ⟨rfl, rfl⟩ := h
      exact base
  · simp at h
    obtain ⟨rfl, rfl⟩ := h
    exact base
end
end Go.Proofs.AM

namespace Go.Proofs.AM
open Go

/-- What a call comes to. -/
def Post (P : Program) (E : Env) (c : Cf) (st : St) (w : World) (r : AV) (st' : St) : Ending → World → Prop
  | .returned v, w' => ∃ c', HR P E c' w' st' ∧ Gd c st w c' st' w' ∧ VR c' w' r v
  | _, _ => False
structure SimInv (P : Program) (E : Env) (inv : Inv) : Prop where
  fn : ∀ raw f fs cs args st r st', inv raw (.fn f fs cs) args st = some (r, st') → ∃ fn, P.funcs[f]? = some fn ∧ fn.body ≠ none ∧ fn.name ≠ "runtime.NumGoroutine" ∧
    ∀ c w fs' cs' vs, HR P E c w st → VL c w fs fs' → VL c w cs cs' → VL c w args vs → CallsIn Fence.wide 0 P f (fs' ++ vs ++ cs').toArray w (Post P E c st w r st')
  yl : ∀ raw l args st r st', inv raw (.yld l) args st = some (r, st') → ∀ c w vs b k, HR P E c w st → c.bt l 0 = some (b, k) → VL c w args vs →
    ∃ rec : Loop, w.heap[b]? = some (.loop rec) ∧ vs.length = rec.params.size ∧ RoundIn Fence.wide 0 P b rec.fn ((rec.params.zip vs.toArray).foldl (fun tmps (t, a) => tmps.setIfInBounds t a) rec.tmps) rec.assign rec.body w (Post P E c st w r st')
def Fw (F : Fence) : Prop := F = Fence.wide ∨ ∃ l, F = Fence.wide.inRound l
theorem Fw.fn {F : Fence} (h : Fw F) (f : FuncId) : F.fn f := by
  rcases h with rfl | ⟨l, rfl⟩ <;> trivial
theorem Fw.depth {F : Fence} (h : Fw F) : F.depth = none := by
  rcases h with rfl | ⟨l, rfl⟩ <;> rfl
theorem Fw.calls {F : Fence} (h : Fw F) {n m : Nat} {P : Program} {f : FuncId} {args : Array Value} {w : World} {R : Ending → World → Prop} (hc : CallsIn Fence.wide m P f args w R) : CallsIn F n P f args w R := by
  rcases h with rfl | ⟨l, rfl⟩
  · exact ⟨hc.1, fun cs _ => hc.2 cs (room_wide _)⟩
  · exact ⟨hc.1, fun cs _ => hc.2 cs (room_wide _)⟩
theorem Fw.round {F : Fence} (h : Fw F) {n m : Nat} {P : Program} {l : Nat} {f : FuncId} {tmps : Array Value} {asg body : Code} {w : World} {R : Ending → World → Prop} (hc : RoundIn Fence.wide m P l f tmps asg body w R) : RoundIn F n P l f tmps asg body w R := by
  rcases h with rfl | ⟨l', rfl⟩
  · exact ⟨hc.1, fun c cs _ => hc.2 c cs (room_wide _)⟩
  · exact ⟨hc.1, fun c cs _ => hc.2 c cs (room_wide _)⟩
theorem isNone_none {α : Type} {o : Option α} (h : o = none) : o.isSome = true → 1 ≤ 0 := by rw [h]; intro h; cases h

theorem lookT_cons {d t : Nat} {tv v : TV} {ts : List (Nat × TV)} (h : lookT t ((d, tv) :: ts) = some v) : (t = d ∧ v = tv) ∨ (t ≠ d ∧ lookT t ts = some v) := by
  simp only [lookT] at h
  split at h
  · rename_i e; simp at h; exact .inl ⟨e.symm, h.symm⟩
  · rename_i e; exact .inr ⟨fun h' => e h'.symm, h⟩
theorem lookT_dropLoc (s t : Nat) : ∀ (ts : List (Nat × TV)), lookT t (dropLoc s ts) = (lookT t ts).map (TV.dl s)
  | [] => rfl
  | (k, v) :: r => by
    simp only [dropLoc, lookT]
    split
    · rfl
    · exact lookT_dropLoc s t r
theorem lookT_noLocs (t : Nat) : ∀ (ts : List (Nat × TV)), lookT t (noLocs ts) = (lookT t ts).map TV.nl
  | [] => rfl
  | (k, v) :: r => by
    simp only [noLocs, lookT]
    split
    · rfl
    · exact lookT_noLocs t r
theorem lookT_pubTs (s id t : Nat) : ∀ (ts : List (Nat × TV)), lookT t (pubTs s id ts) = (lookT t ts).map (TV.pub s id)
  | [] => rfl
  | (k, v) :: r => by
    simp only [pubTs, lookT]
    split
    · rfl
    · exact lookT_pubTs s id t r
theorem lookB_delB (s t : Nat) : ∀ (bs : Bxs), lookB t (delB s bs) = if t = s then none else lookB t bs
  | [] => by simp [delB, lookB]
  | (k, v) :: r => by
    simp only [delB]
    split
    · rename_i e
      subst e
      rw [lookB_delB k t r]
      split
      · rfl
      · rename_i h
        simp only [lookB]
        rw [if_neg (Ne.symm h)]
    · rename_i e
      simp only [lookB]
      split
      · rename_i h; subst h; rw [if_neg e]
      · exact lookB_delB s t r

section
variable {P : Program} {E : Env} {inv : Inv} {c0 : Cf} {st0 : St} {w0 : World} {mk : List Nat} {c : Cf} {st : St} {w : World} {lam : Nat → Nat} {bs : Bxs} {ts : List (Nat × TV)} {a : Act} {F : Fence} {n : Nat}

theorem TS.put {tmps : Array Value} {tv : TV} {x : Value} {d : Nat} (h : TS c w lam ts tmps) (hx : TR c w lam tv x) (hd : d < tmps.size) : TS c w lam ((d, tv) :: ts) (tmps.setIfInBounds d x) := by
  intro t v e
  rcases lookT_cons e with ⟨rfl, rfl⟩ | ⟨hne, e⟩
  · exact ⟨x, by simp [hd], hx⟩
  · obtain ⟨y, hy, hr⟩ := h t v e
    exact ⟨y, by rw [Array.getElem?_setIfInBounds_ne (Ne.symm hne)]; exact hy, hr⟩
theorem TS.putD {tv : TV} {x : Value} {dst : Option Nat} (h : TS c w lam ts a.tmps) (hx : TR c w lam tv x) (hd : ∀ d, dst = some d → d < a.tmps.size) : TS c w lam (AM.putD dst tv ts) (a.put dst x).tmps := by
  cases dst with
  | none => exact h
  | some d => exact h.put hx (hd d rfl)
theorem put_size (dst : Option Nat) (x : Value) : (a.put dst x).tmps.size = a.tmps.size := by cases dst <;> simp [Act.put]
theorem put_defers (dst : Option Nat) (x : Value) : (a.put dst x).defers = a.defers := by cases dst <;> rfl
theorem TS.reLoc {tmps : Array Value} {d b : Nat} (h : TS c w lam ts tmps) : TS c w (setL lam d b) (dropLoc d ts) tmps := by
  intro t v e
  rw [lookT_dropLoc] at e
  cases e1 : lookT t ts with
  | none => rw [e1] at e; cases e
  | some u =>
    rw [e1] at e
    simp only [Option.map_some, Option.some.injEq] at e
    obtain ⟨x, hx, hr⟩ := h t u e1
    refine ⟨x, hx, ?_⟩
    subst e
    cases hr with
    | v hr => exact .v hr
    | loc s off =>
      simp only [TV.dl]
      split
      · exact .no _
      · rename_i hne
        have := TR.loc (c := c) (w := w) (lam := setL lam d b) s off
        simpa [setL, hne] using this
    | lsl s es n k hn hk =>
      simp only [TV.dl]
      split
      · exact .no _
      · rename_i hne
        have := TR.lsl (c := c) (w := w) (lam := setL lam d b) s es n k hn hk
        simpa [setL, hne] using this
    | und => exact .und
    | no => exact .no _
theorem reLoc_nl {op : AOp} {d : Nat} : (nlOf op d = none ∧ AM.reLoc op d ts = ts) ∨ (nlOf op d = some d ∧ AM.reLoc op d ts = dropLoc d ts) := by
  cases op <;> try exact .inl ⟨rfl, rfl⟩
  · rename_i lc _; cases lc
    · exact .inl ⟨rfl, rfl⟩
    · exact .inr ⟨rfl, rfl⟩
  · rename_i lc _; cases lc
    · exact .inl ⟨rfl, rfl⟩
    · exact .inr ⟨rfl, rfl⟩
  · rename_i lc _ _ _ _ _; cases lc
    · exact .inl ⟨rfl, rfl⟩
    · exact .inr ⟨rfl, rfl⟩
theorem TS.step {c' : Cf} {st' : St} {w' : World} {lam' : Nat → Nat} {op : AOp} {d : Nat} {tmps : Array Value} (hs : SR P E c0 st0 w0 mk c st w lam bs) (g : Stp c st w lam bs c' st' w') (hl : lam' = lam ∨ ∃ e, nlOf op d = some e ∧ lam' = setL lam e w.heap.size) (h : TS c w lam ts tmps) :
    TS c' w' lam' (AM.reLoc op d ts) tmps := by
  have h' := h.mono g.le (hs.keep g)
  rcases hl with rfl | ⟨e, he, rfl⟩
  · rcases reLoc_nl (op := op) (d := d) (ts := ts) with ⟨_, h2⟩ | ⟨_, h2⟩
    · rw [h2]; exact h'
    · rw [h2]
      intro t v e
      rw [lookT_dropLoc] at e
      cases e1 : lookT t ts with
      | none => rw [e1] at e; cases e
      | some u =>
        rw [e1] at e
        simp only [Option.map_some, Option.some.injEq] at e
        obtain ⟨x, hx, hr⟩ := h' t u e1
        refine ⟨x, hx, ?_⟩
        subst e
        cases hr with
        | v hr => exact .v hr
        | loc s off => simp only [TV.dl]; split; exact .no _; exact .loc _ _
        | lsl s es n k hn hk => simp only [TV.dl]; split; exact .no _; exact .lsl _ _ _ _ hn hk
        | und => exact .und
        | no => exact .no _
  · rcases reLoc_nl (op := op) (d := d) (ts := ts) with ⟨h1, _⟩ | ⟨h1, h2⟩
    · rw [h1] at he; cases he
    · rw [h1] at he; cases he
      rw [h2]; exact h'.reLoc

/-- What is asked behind an operation. -/
def Kd (P : Program) (E : Env) (c0 : Cf) (st0 : St) (w0 : World) (mk : List Nat) (nt : Nat) (ds : List Deferred) (fr : Fr) (st : St) (a : Act) (w : World) : Prop :=
  ∃ c lam, SR P E c0 st0 w0 mk c st w lam fr.bs ∧ TS c w lam fr.ts a.tmps ∧ a.tmps.size = nt ∧ a.defers = ds

theorem VR.fn_inv {f : Nat} {fs cs : List AV} {x : Value} (h : VR c w (.fn f fs cs) x) : ∃ fs' cs', x = .func (.func f) fs'.toArray cs'.toArray ∧ VL c w fs fs' ∧ VL c w cs cs' := by
  cases h with
  | fn f fs cs fs' cs' hf hc h1 h2 => exact ⟨fs', cs', rfl, ⟨hf, h1⟩, ⟨hc, h2⟩⟩

theorem call_ok (hF : Fw F) (hinv : SimInv P E inv) {o : Oper} {raw fz : Bool} {f : AX} {args : List AX} (hok : okOp P (.call raw fz f args) o.op = true) {d : Nat} (hs : SR P E c0 st0 w0 mk c st w lam bs) (hts : TS c w lam ts a.tmps)
    (hd : ∀ d, o.dst = some d → d < a.tmps.size) {tv : TV} {bs' : Bxs} {st' : St} (h : ev E inv d ts bs st (.call raw fz f args) = some (tv, bs', st')) {K : Act → World → Prop} {Q : Exit → Act → World → Prop}
    (hK : ∀ a' w', Kd P E c0 st0 w0 mk a.tmps.size a.defers { ts := AM.putD o.dst tv ts, bs := bs' } st' a' w' → K a' w') : o.wpIn F n P a w K Q := by
  cases ho : o.op <;> rw [ho] at hok <;> simp [okOp] at hok
  rename_i cl
  obtain ⟨hc, hx⟩ := hok
  obtain ⟨cal, ⟨ys⟩, tys⟩ := cl
  simp only at hc hx
  split at hc
  case h_2 => cases hc
  rename_i g
  simp only [ev] at h
  split at h
  case h_2 => cases h
  rename_i fv hfv
  split at h
  case h_2 => cases h
  rename_i cq hcq
  split at h
  case h_2 => cases h
  rename_i as has
  split at h
  case h_2 => cases h
  rename_i as1 st1 hfz
  split at h
  case h_2 => cases h
  rename_i r st2 hcall
  simp only [Option.some.injEq, Prod.mk.injEq] at h
  obtain ⟨rfl, rfl, rfl⟩ := h
  have hvs : VL c w as (ys.map a.eval) := rdVs_rel hts hx has
  have hfr := rdV_VR hts hc hfv
  obtain ⟨c1, hs1, g1, hva⟩ := hs.argsFz hfz
  have hvs1 := hva _ hvs
  have hts1 := hts.mono g1.le (hs.keep g1)
  have hfr1 := hfr.mono g1.le (hs.keep g1)
  -- behind the call
  have fin : ∀ v w', Post P E c1 st1 w r st2 (.returned v) w' → K (a.put o.dst v) w' := by
    rintro v w' ⟨c', hr', g', hv'⟩
    refine hK _ _ ⟨c', lam, hs1.call g' hr', ?_, put_size _ _, put_defers _ _⟩
    exact (hts1.mono g'.le (hs1.hr.keeps g')).putD (.v hv') hd
  refine ⟨fun f _ => hF.fn f, ?_⟩
  rw [Oper.semAt_eq _ _ _ (fun c => by rw [ho]; simp)]
  unfold calOf at hcq
  split at hcq
  · rename_i f' fs cs
    simp at hcq; subst hcq
    obtain ⟨fs', cs', ef, hfs, hcs⟩ := hfr1.fn_inv
    obtain ⟨fn, h1, h2, h3, hsim⟩ := hinv.fn _ _ _ _ _ _ _ _ hcall
    have hrun : (execOp a.eval o).run P w = .ok (.enter f' (fs' ++ ys.map a.eval ++ cs').toArray) w := by
      simp [execOp, ho, resolve, Deferred.ofValue, ef, invoke, callFunc, h1, h2, h3]
    rw [hrun, Oper.uponIn_enter]
    refine ⟨fun h => (by rw [hF.depth] at h; cases h), hF.calls ((hsim c1 w fs' cs' _ hs1.hr hfs hcs hvs1).mono fun e w' he => ?_)⟩
    cases e with
    | returned v => exact fin v w' he
    | panicked _ => exact he.elim
    | outgrown => exact he.elim
  · rename_i l
    simp at hcq; subst hcq
    generalize hz : a.eval g = z at hfr1
    cases hfr1 with
    | yld l b k hb =>
    obtain ⟨rec, h1, h2, hsim⟩ := hinv.yl _ _ _ _ _ _ hcall c1 w _ b k hs1.hr hb hvs1
    have hrun : (execOp a.eval o).run P w = .ok (.round b rec.fn ((rec.params.zip (ys.map a.eval).toArray).foldl (fun tmps (t, a) => tmps.setIfInBounds t a) rec.tmps) rec.assign rec.body) w := by
      have := run_yield (P := P) (args := (ys.map a.eval).toArray) h1 (by simpa using h2)
      simp [execOp, ho, resolve, Deferred.ofValue, hz, invoke] at this ⊢
      exact this
    rw [hrun, Oper.uponIn_round]
    refine ⟨fun h => (by rw [hF.depth] at h; cases h), hF.round (hsim.mono fun e w' he => ?_)⟩
    cases e with
    | returned v => exact fin v w' he
    | panicked _ => exact he.elim
    | outgrown => exact he.elim
  · cases hcq

theorem oper_ok (hF : Fw F) (hinv : SimInv P E inv) {o : Oper} {op : AOp} (hok : okOp P op o.op = true) (hdst : okDst { dst := o.dst, op } = true) (hs : SR P E c0 st0 w0 mk c st w lam bs) (hts : TS c w lam ts a.tmps)
    (hd : ∀ d, o.dst = some d → d < a.tmps.size) {tv : TV} {bs' : Bxs} {st' : St} (h : ev E inv (o.dst.getD 0) ts bs st op = some (tv, bs', st')) {K : Act → World → Prop} {Q : Exit → Act → World → Prop}
    (hK : ∀ a' w', Kd P E c0 st0 w0 mk a.tmps.size a.defers { ts := AM.putD o.dst tv (AM.reLoc op (o.dst.getD 0) ts), bs := bs' } st' a' w' → K a' w') : o.wpIn F n P a w K Q := by
  cases hcl : isCall op with
  | true =>
    cases op <;> simp [isCall] at hcl
    exact call_ok hF hinv hok hs hts hd h hK
  | false =>
    obtain ⟨x, w', c', lam', hrun, hs', g, ht, hl⟩ := sim_op hs hts hok hcl h
    have hnd : ∀ cq, o.op ≠ .defer cq := by
      intro cq e
      rw [e] at hok
      cases op <;> simp [okOp] at hok
    refine ⟨fun f _ => hF.fn f, ?_⟩
    rw [Oper.semAt_eq _ _ _ hnd]
    have hk : K (a.put o.dst x) w' := hK _ _ ⟨c', lam', hs', (TS.step hs g hl hts).putD ht hd, put_size _ _, put_defers _ _⟩
    rcases hrun with hrun | ⟨hrun, rfl⟩
    · rw [hrun]; exact hk
    · rw [hrun]; exact hk

theorem wanted_ok (hts : TS c w lam ts a.tmps) {ops : Array Oper} {o : AO} {oper : Oper} {nt : Nat} (hok : okO P nt ops o oper = true) {b : Bool} (h : wantA ts o.guard = some b) : Region.wanted oper (yielded ops a.tmps) = b := by
  simp only [okO, Bool.and_eq_true] at hok
  have hg := hok.2
  unfold Region.wanted
  cases e1 : o.guard with
  | none =>
    cases e2 : oper.guard with
    | none => rw [e1] at h; simp [wantA] at h; subst h; rfl
    | some q => rw [e1, e2] at hg; cases hg
  | some q =>
    obtain ⟨s, wq⟩ := q
    cases e2 : oper.guard with
    | none => rw [e1, e2] at hg; cases hg
    | some q2 =>
      obtain ⟨j, w2⟩ := q2
      rw [e1, e2] at hg
      simp only [Bool.and_eq_true, beq_iff_eq] at hg
      obtain ⟨rfl, hg⟩ := hg
      split at hg
      · rename_i qo hq
        simp at hg
        rw [e1] at h
        simp only [wantA] at h
        split at h
        · rename_i b' e3
          simp at h
          obtain ⟨x, hx, hr⟩ := hts _ _ e3
          cases hr with | v hr =>
          cases hr
          subst h
          have : yielded ops a.tmps j = some b' := by
            simp [yielded, hq, hg, hx]
          simp only [this]
          cases b' <;> cases wq <;> rfl
        · rename_i e3
          simp at h
          obtain ⟨x, hx, hr⟩ := hts _ _ e3
          cases hr
          subst h
          have : yielded ops a.tmps j = none := by
            simp [yielded, hq, hg, hx, undef]
          simp only [this]
          rfl
        · cases h
      · cases hg

/-- One operation of a region. -/
theorem stepO_ok (hF : Fw F) (hinv : SimInv P E inv) {ops : Array Oper} {i : Nat} {oper : Oper} (hi : ops[i]? = some oper) {o : AO} {nt : Nat} (hok : okO P nt ops o oper = true) (hdst : okDst o = true) {fr fr' : Fr} {st' : St} {ds : List Deferred}
    (hk : Kd P E c0 st0 w0 mk nt ds fr st a w) (h : stepO E inv o fr st = some (fr', st')) {K : Act → World → Prop} {Q : Exit → Act → World → Prop} (hK : ∀ a' w', Kd P E c0 st0 w0 mk nt ds fr' st' a' w' → K a' w') : wpOpIn F n P ops Q i K a w := by
  obtain ⟨c, lam, hs, hts, hn, hds⟩ := hk
  have hokc := hok
  simp only [okO, Bool.and_eq_true, decide_eq_true_eq] at hok
  obtain ⟨⟨⟨hop, hde⟩, hdl⟩, _⟩ := hok
  have hd : ∀ d, oper.dst = some d → d < a.tmps.size := by
    intro d e
    rw [e] at hdl
    have hlt : d < nt := by simpa using hdl
    rw [hn]; exact hlt
  unfold wpOpIn
  simp only [hi]
  unfold stepO at h
  split at h
  · rename_i hw
    rw [wanted_ok hts hokc hw]
    simp only [if_true]
    split at h
    · rename_i tv bs' st2 hev
      simp only [Option.some.injEq, Prod.mk.injEq] at h
      obtain ⟨rfl, rfl⟩ := h
      rw [hde] at hev hK
      refine oper_ok hF hinv hop (by unfold okDst at hdst ⊢; simpa [hde] using hdst) hs hts hd hev (fun a' w' h => hK a' w' ?_)
      obtain ⟨c', lam', h1, h2, h3, h4⟩ := h
      exact ⟨c', lam', h1, h2, by omega, h4.trans hds⟩
    · cases h
  · rename_i hw
    rw [wanted_ok hts hokc hw]
    simp only [Option.some.injEq, Prod.mk.injEq] at h
    obtain ⟨rfl, rfl⟩ := h
    simp only [Bool.false_eq_true, if_false]
    refine ⟨fun f _ => hF.fn f, hK _ _ ⟨c, lam, hs, ?_, by rw [put_size]; exact hn, by rw [put_defers]; exact hds⟩⟩
    rw [hde]
    exact hts.putD .und hd
  · cases h
end
end Go.Proofs.AM

namespace Go.Proofs.AM
open Go

theorem keepT_look {t : Nat} {v : TV} {ts : List (Nat × TV)} : ∀ {ks : List Nat}, lookT t (keepT ts ks) = some v → lookT t ts = some v
  | [], h => by simp [keepT, lookT] at h
  | k :: ks, h => by
    simp only [keepT] at h
    split at h
    · rename_i u e
      rcases lookT_cons h with ⟨rfl, rfl⟩ | ⟨_, h⟩
      · exact e
      · exact keepT_look h
    · exact keepT_look h
theorem keepB_look {t : Nat} {v : List AV} {bs : Bxs} : ∀ {ks : List Nat}, lookB t (keepB bs ks) = some v → lookB t bs = some v
  | [], h => by simp [keepB, lookB] at h
  | k :: ks, h => by
    simp only [keepB] at h
    split at h
    · rename_i u e
      rcases lookB_cons h with ⟨rfl, rfl⟩ | ⟨_, h⟩
      · exact e
      · exact keepB_look h
    · exact keepB_look h
section
variable {P : Program} {E : Env} {inv : Inv} {c0 : Cf} {st0 : St} {w0 : World} {mk : List Nat} {c : Cf} {st : St} {w : World} {lam : Nat → Nat} {bs : Bxs} {ts : List (Nat × TV)} {a : Act} {F : Fence} {n : Nat}
theorem SR.less {bs' : Bxs} (hs : SR P E c0 st0 w0 mk c st w lam bs) (h : ∀ s cs, lookB s bs' = some cs → lookB s bs = some cs) : SR P E c0 st0 w0 mk c st w lam bs' where
  hr := hs.hr
  gd := hs.gd
  bx s cs e := hs.bx s cs (h s cs e)
  bd s s' cs cs' e e' := hs.bd s s' cs cs' (h s cs e) (h s' cs' e')
  md r hr := let ⟨h1, h2, h3, h4, h5⟩ := hs.md r hr; ⟨h1, h2, h3, h4, fun s cs e => h5 s cs (h s cs e)⟩
theorem TS.less {ts' : List (Nat × TV)} {tmps : Array Value} (h : TS c w lam ts tmps) (hl : ∀ t v, lookT t ts' = some v → lookT t ts = some v) : TS c w lam ts' tmps := fun t v e => h t v (hl t v e)

theorem opsA_ok (hF : Fw F) (hinv : SimInv P E inv) {ops : Array Oper} {nt : Nat} {ds : List Deferred} {Q : Exit → Act → World → Prop} : ∀ {os : List AO} {l : List Oper} {k : Nat}, okOs P nt ops os l = true → (∀ j, j < l.length → ops[k + j]? = l[j]?) → os.all okDst = true → ∀ {fr fr' : Fr} {st st' : St} {a : Act} {w : World},
    Kd P E c0 st0 w0 mk nt ds fr st a w → opsA E inv os fr st = some (fr', st') → (∀ a' w', Kd P E c0 st0 w0 mk nt ds fr' st' a' w' → Q .normal a' w') → wpOpsIn F n P ops Q (List.range' k l.length) a w
  | [], [], k, _, _, _, fr, fr', st, st', a, w, hk, h, hK => by
    simp [opsA] at h
    obtain ⟨rfl, rfl⟩ := h
    exact hK _ _ hk
  | [], _ :: _, _, h, _, _, _, _, _, _, _, _, _, _, _ => by simp [okOs] at h
  | _ :: _, [], _, h, _, _, _, _, _, _, _, _, _, _, _ => by simp [okOs] at h
  | o :: os, x :: l, k, hok, hix, hd, fr, fr', st, st', a, w, hk, h, hK => by
    simp only [okOs, Bool.and_eq_true] at hok
    simp only [List.all_cons, Bool.and_eq_true] at hd
    simp only [opsA] at h
    split at h
    · rename_i fr1 st1 e
      simp only [List.length_cons, List.range'_succ]
      rw [wpOpsIn_cons]
      have hi : ops[k]? = some x := by have := hix 0 (Nat.succ_pos _); simpa using this
      refine stepO_ok hF hinv hi hok.1 hd.1 hk e (fun a' w' hk' => ?_)
      refine opsA_ok hF hinv hok.2 (fun j hj => ?_) hd.2 hk' h hK
      have := hix (j + 1) (by simpa using hj)
      rw [show k + 1 + j = k + (j + 1) by omega]
      simpa using this
    · cases h

/-! ### Publishing -/
theorem SR.pub {s : Nat} {cs : List AV} (hs : SR P E c0 st0 w0 mk c st w lam bs) (hb : lookB s bs = some cs) : SR P E c0 st0 w0 mk (c.add st.heap.length (lam s) 0) (alloc st (.cells 0 none cs)) w lam (delB s bs) := by
  obtain ⟨b1, b2, b3, b4, b5⟩ := hs.bx s cs hb
  have hle := hs.hr.le_add (lam s) 0
  have hown : ∀ b, Owned (c.add st.heap.length (lam s) 0) (alloc st (.cells 0 none cs)) b → Owned c st b ∨ b = lam s := by
    rintro b ⟨i, v, y, ho, hbt⟩
    rcases add_bt hbt with ⟨_, _, h3, _⟩ | ⟨_, h⟩
    · exact .inr h3
    · exact .inl ⟨i, v, y, (own_alloc_old (hs.hr.dom _ _ _ h)).1 ho, h⟩
  have hdel : ∀ s' x, lookB s' (delB s bs) = some x → s' ≠ s ∧ lookB s' bs = some x := by
    intro s' x h
    rw [lookB_delB] at h
    split at h
    · cases h
    · exact ⟨by assumption, h⟩
  refine { hr := { dom := ?_, lt := ?_, obj := ?_, inj := ?_, fzo := ?_, fzl := hs.hr.fzl, glob := ?_, fut := ?_, tot := ?_ }, gd := { le := Cf.le_trans hs.gd.le hle, frame := hs.gd.frame, fz := hs.gd.fz, own := ?_, size := hs.gd.size, os := hs.gd.os, tape := hs.gd.tape, output := hs.gd.output }, bx := ?_, bd := ?_, md := ?_ }
  · intro i v x h
    simp only [alloc, List.length_append, List.length_cons, List.length_nil]
    obtain ⟨x, y⟩ := x
    rcases add_bt h with ⟨h1, _⟩ | ⟨_, h⟩
    · omega
    · have := hs.hr.dom _ _ _ h; omega
  · intro i v b k' h
    rcases add_bt h with ⟨_, _, h3, _⟩ | ⟨_, h⟩
    · omega
    · exact hs.hr.lt _ _ _ _ h
  · intro i v b k' h
    rcases add_bt h with ⟨rfl, rfl, rfl, rfl⟩ | ⟨_, h⟩
    · simp only [alloc, List.getElem?_concat_length]
      exact fun _ => ⟨b5.mono hle (fun _ _ => rfl) rfl, trivial⟩
    · have hd := hs.hr.dom _ _ _ h
      simp only [alloc]
      rw [List.getElem?_append_left hd]
      exact (hs.hr.obj _ _ _ _ h).mono hle (fun _ _ => rfl) (fun _ => rfl)
  · intro i v i' v' b k1 k2 h1 h2 e1 e2
    rcases add_bt e1 with ⟨rfl, _, rfl, _⟩ | ⟨_, e1⟩ <;> rcases add_bt e2 with ⟨rfl, _, h3, _⟩ | ⟨_, e2⟩
    · rfl
    · exact absurd ⟨i', v', k2, (own_alloc_old (hs.hr.dom _ _ _ e2)).1 h2, e2⟩ b4
    · subst h3
      exact absurd ⟨i, v, k1, (own_alloc_old (hs.hr.dom _ _ _ e1)).1 h1, e1⟩ b4
    · exact hs.hr.inj i v i' v' b k1 k2 ((own_alloc_old (hs.hr.dom _ _ _ e1)).1 h1) ((own_alloc_old (hs.hr.dom _ _ _ e2)).1 h2) e1 e2
  · intro b hf ho
    rcases hown b ho with h | h
    · exact hs.hr.fzo b hf h
    · exact b3 (h ▸ hf)
  · intro gl cs e
    obtain ⟨h1, h2⟩ := hs.hr.glob gl cs e
    exact ⟨h1, h2.mono hle (fun _ _ => rfl) rfl⟩
  · intro i v x h u gr cs ho
    obtain ⟨x, y⟩ := x
    rcases add_bt h with ⟨_, rfl, _, _⟩ | ⟨_, h⟩
    · exact Nat.zero_le _
    · have hd := hs.hr.dom _ _ _ h
      simp only [alloc] at ho
      rw [List.getElem?_append_left hd] at ho
      exact hs.hr.fut _ _ _ h _ _ _ ho
  · intro i v h
    by_cases hi : i < st.heap.length
    · have : cur st i v := by
        unfold cur alloc at h
        rw [List.getElem?_append_left hi] at h
        exact h
      obtain ⟨x, hx⟩ := hs.hr.tot i v this
      exact ⟨x, hle.1 _ _ _ hx⟩
    · by_cases hi2 : i = st.heap.length
      · subst hi2
        have : v = 0 := by
          unfold cur alloc at h
          simp only [List.getElem?_concat_length] at h
          exact h.symm
        exact ⟨(lam s, 0), by simp [Cf.add, this]⟩
      · have : (alloc st (.cells 0 none cs)).heap[i]? = none := by simp [alloc]; omega
        unfold cur at h
        rw [this] at h
        exact h.elim
  · intro b ho
    rcases hown b ho with h | h
    · exact hs.gd.own b h
    · exact .inr (h ▸ b1)
  · intro s' x hx
    obtain ⟨hne, hx⟩ := hdel s' x hx
    obtain ⟨k1, k2, k3, k4, k5⟩ := hs.bx s' x hx
    refine ⟨k1, k2, k3, fun ho => ?_, k5.mono hle (fun _ _ => rfl) rfl⟩
    rcases hown _ ho with h | h
    · exact k4 h
    · exact hne (hs.bd _ _ _ _ hx hb h)
  · intro s1 s2 x1 x2 h1 h2 he
    exact hs.bd _ _ _ _ (hdel _ _ h1).2 (hdel _ _ h2).2 he
  · intro r hr
    obtain ⟨m1, m2, m3, m4, m5⟩ := hs.md r hr
    refine ⟨m1, m2, m3, fun ho => ?_, fun s' x hx => m5 s' x (hdel s' x hx).2⟩
    rcases hown _ ho with h | h
    · exact m4 h
    · exact m5 s cs hb h.symm
theorem pubA_ok {nt : Nat} {ds : List Deferred} : ∀ {ps : List Nat} {fr fr' : Fr} {st st' : St}, Kd P E c0 st0 w0 mk nt ds fr st a w → pubA ps fr st = some (fr', st') → Kd P E c0 st0 w0 mk nt ds fr' st' a w
  | [], fr, fr', st, st', hk, h => by simp [pubA] at h; obtain ⟨rfl, rfl⟩ := h; exact hk
  | s :: ps, fr, fr', st, st', hk, h => by
    simp only [pubA] at h
    split at h
    · rename_i cs hb
      obtain ⟨c, lam, hs, hts, hn, hds⟩ := hk
      refine pubA_ok ⟨_, lam, hs.pub hb, ?_, hn, hds⟩ h
      have hle := hs.hr.le_add (lam s) 0
      have hts' := hts.mono (c' := c.add st.heap.length (lam s) 0) (w' := w) hle (fun _ _ => rfl)
      intro t v e
      rw [lookT_pubTs] at e
      cases e1 : lookT t fr.ts with
      | none => rw [e1] at e; cases e
      | some u =>
        rw [e1] at e
        simp only [Option.map_some, Option.some.injEq] at e
        obtain ⟨x, hx, hr⟩ := hts' t u e1
        refine ⟨x, hx, ?_⟩
        subst e
        cases hr with
        | v hr => exact .v hr
        | loc s' off =>
          simp only [TV.pub]
          split
          · rename_i e; subst e; exact .v (.ref _ _ _ _ 0 (c.add_new _ _ _))
          · exact .loc _ _
        | lsl s' es n k hn hk =>
          simp only [TV.pub]
          split
          · rename_i e; subst e; exact .v (VR.mk_sl (c.add_new _ _ _) hn hk)
          · exact .lsl _ _ _ _ hn hk
        | und => exact .und
        | no => exact .no _
    · cases h
theorem keep_ok {nt : Nat} {ds : List Deferred} {fr : Fr} (ks kb : List Nat) (hk : Kd P E c0 st0 w0 mk nt ds fr st a w) : Kd P E c0 st0 w0 mk nt ds { ts := keepT fr.ts ks, bs := keepB fr.bs kb } st a w := by
  obtain ⟨c, lam, hs, hts, hn, hds⟩ := hk
  exact ⟨c, lam, hs.less (fun _ _ h => keepB_look h), hts.less (fun _ _ h => keepT_look h), hn, hds⟩
end
end Go.Proofs.AM

namespace Go.Proofs.AM
open Go

section
variable {E : Env} {inv : Inv} {ts ts2 : List (Nat × TV)}
theorem rdT_eq {x : AX} (h : ∀ t ∈ x.slot, lookT t ts2 = lookT t ts) : rdT ts2 x = rdT ts x := by
  cases x with
  | t n => simp only [rdT]; rw [h n (by simp [AX.slot])]
  | _ => rfl
theorem rdV_eq {x : AX} (h : ∀ t ∈ x.slot, lookT t ts2 = lookT t ts) : rdV ts2 x = rdV ts x := by unfold rdV; rw [rdT_eq h]
theorem rdI_eq {x : AX} (h : ∀ t ∈ x.slot, lookT t ts2 = lookT t ts) : rdI ts2 x = rdI ts x := by unfold rdI; rw [rdV_eq h]
theorem rdO_eq {x : Option AX} (h : ∀ t ∈ AX.slotO x, lookT t ts2 = lookT t ts) : rdO ts2 x = rdO ts x := by
  cases x with
  | none => rfl
  | some x => simp only [rdO]; rw [rdI_eq (x := x) h]
theorem rdVs_eq : ∀ {xs : List AX}, (∀ t ∈ slotsL xs, lookT t ts2 = lookT t ts) → rdVs ts2 xs = rdVs ts xs
  | [], _ => rfl
  | x :: xs, h => by
    simp only [rdVs]
    rw [rdV_eq (x := x) (fun t ht => h t (by simp [slotsL, ht])), rdVs_eq (fun t ht => h t (by simp [slotsL, ht]))]
theorem fillA_eq : ∀ {ps : List (Nat × Nat × AX)} {cs : List AV}, (∀ t ∈ slotsP ps, lookT t ts2 = lookT t ts) → fillA ts2 cs ps = fillA ts cs ps
  | [], _, _ => rfl
  | (off, n, x) :: ps, cs, h => by
    simp only [fillA]
    rw [rdV_eq (x := x) (fun t ht => h t (by simp [slotsP, ht]))]
    split
    · split
      · split
        · exact fillA_eq (fun t ht => h t (by simp [slotsP, ht]))
        · rfl
      · rfl
    · rfl
/-- An operation leans on its own slots alone. -/
theorem ev_ts {d : Nat} {bs : Bxs} {st : St} {op : AOp} (h : ∀ t ∈ op.uses, lookT t ts2 = lookT t ts) : ev E inv d ts2 bs st op = ev E inv d ts bs st op := by
  cases op <;> simp only [AOp.uses, List.mem_append] at h <;> simp only [ev]
  case mov x => rw [rdT_eq h]
  case pick x y z => rw [rdV_eq (x := x) (fun t ht => h t (by simp [ht])), rdT_eq (x := y) (fun t ht => h t (by simp [ht])), rdT_eq (x := z) (fun t ht => h t (by simp [ht]))]
  case box lc x => rw [rdV_eq h]
  case build zero ps => rw [fillA_eq h]
  case bslice pu es len zero ps => rw [fillA_eq h]
  case load ag n x => rw [rdT_eq h]
  case store n x y => rw [rdT_eq (x := x) (fun t ht => h t (by simp [ht])), rdV_eq (x := y) (fun t ht => h t (by simp [ht]))]
  case faddr off x => rw [rdT_eq h]
  case iaddr es x y => rw [rdV_eq (x := x) (fun t ht => h t (by simp [ht])), rdI_eq (x := y) (fun t ht => h t (by simp [ht]))]
  case aaddr es len x y => rw [rdT_eq (x := x) (fun t ht => h t (by simp [ht])), rdI_eq (x := y) (fun t ht => h t (by simp [ht]))]
  case field ag off n x => rw [rdV_eq h]
  case index ag es len x y => rw [rdV_eq (x := x) (fun t ht => h t (by simp [ht])), rdI_eq (x := y) (fun t ht => h t (by simp [ht]))]
  case un o x => rw [rdV_eq h]
  case bin o x y => rw [rdV_eq (x := x) (fun t ht => h t (by simp [ht])), rdV_eq (x := y) (fun t ht => h t (by simp [ht]))]
  case eqb o x y => rw [rdV_eq (x := x) (fun t ht => h t (by simp [ht])), rdV_eq (x := y) (fun t ht => h t (by simp [ht]))]
  case eqs o sg x y => rw [rdV_eq (x := x) (fun t ht => h t (by simp [ht])), rdV_eq (x := y) (fun t ht => h t (by simp [ht]))]
  case len x => rw [rdV_eq h]
  case mm mx x xs => rw [rdV_eq (x := x) (fun t ht => h t (by simp [ht])), rdVs_eq (xs := xs) (fun t ht => h t (by simp [ht]))]
  case app es e bytes x y => rw [rdV_eq (x := x) (fun t ht => h t (by simp [ht])), rdV_eq (x := y) (fun t ht => h t (by simp [ht]))]
  case mks lc es bytes zero x y => rw [rdI_eq (x := x) (fun t ht => h t (by simp [ht])), rdI_eq (x := y) (fun t ht => h t (by simp [ht]))]
  case look sg zero okq x y => rw [rdV_eq (x := x) (fun t ht => h t (by simp [ht])), rdV_eq (x := y) (fun t ht => h t (by simp [ht]))]
  case upd sg x y z => rw [rdV_eq (x := x) (fun t ht => h t (by simp [ht])), rdV_eq (x := y) (fun t ht => h t (by simp [ht])), rdV_eq (x := z) (fun t ht => h t (by simp [ht]))]
  case slc es x a b c => rw [rdV_eq (x := x) (fun t ht => h t (by simp [ht])), rdO_eq (x := a) (fun t ht => h t (by simp [ht])), rdO_eq (x := b) (fun t ht => h t (by simp [ht])), rdO_eq (x := c) (fun t ht => h t (by simp [ht]))]
  case mkf f fs cs => rw [rdVs_eq (xs := fs) (fun t ht => h t (by simp [ht])), rdVs_eq (xs := cs) (fun t ht => h t (by simp [ht]))]
  case ext i x => rw [rdV_eq h]
  case call raw fz f args => rw [rdV_eq (x := f) (fun t ht => h t (by simp [ht])), rdVs_eq (xs := args) (fun t ht => h t (by simp [ht]))]

/-! ### What an operation read was known -/
theorem rdT_no {x : AX} {v : TV} (h : rdT ts x = some v) : ∀ t ∈ x.slot, lookT t ts ≠ some .no := by
  intro t ht e
  cases x with
  | t n =>
    simp [AX.slot] at ht; subst ht
    simp [rdT, e, noNo] at h
  | _ => simp [AX.slot] at ht
theorem rdV_some {x : AX} {v : AV} (h : rdV ts x = some v) : rdT ts x = some (.v v) := by
  unfold rdV at h
  split at h
  · rename_i e; simp at h; subst h; exact e
  · cases h
theorem rdV_no {x : AX} {v : AV} (h : rdV ts x = some v) : ∀ t ∈ x.slot, lookT t ts ≠ some .no := rdT_no (rdV_some h)
theorem rdI_some {x : AX} {i : Int} (h : rdI ts x = some i) : ∃ k, rdV ts x = some (.int k i) := by
  unfold rdI at h
  split at h
  · rename_i k m e; simp at h; subst h; exact ⟨k, e⟩
  · cases h
theorem rdI_no {x : AX} {i : Int} (h : rdI ts x = some i) : ∀ t ∈ x.slot, lookT t ts ≠ some .no := let ⟨_, h⟩ := rdI_some h; rdV_no h
theorem rdO_no {x : Option AX} {i : Option Int} (h : rdO ts x = some i) : ∀ t ∈ AX.slotO x, lookT t ts ≠ some .no := by
  cases x with
  | none => intro t ht; simp [AX.slotO] at ht
  | some x =>
    simp only [rdO] at h
    split at h
    · rename_i e; exact rdI_no e
    · cases h
theorem rdVs_no : ∀ {xs : List AX} {vs : List AV}, rdVs ts xs = some vs → ∀ t ∈ slotsL xs, lookT t ts ≠ some .no
  | [], _, _, t, ht => by simp [slotsL] at ht
  | x :: xs, vs, h, t, ht => by
    simp only [rdVs] at h
    split at h
    · rename_i e
      split at h
      · rename_i e2
        simp only [slotsL, List.mem_append] at ht
        exact ht.elim (rdV_no e t) (rdVs_no e2 t)
      · cases h
    · cases h
theorem fillA_no : ∀ {ps : List (Nat × Nat × AX)} {cs r : List AV}, fillA ts cs ps = some r → ∀ t ∈ slotsP ps, lookT t ts ≠ some .no
  | [], _, _, _, t, ht => by simp [slotsP] at ht
  | (off, n, x) :: ps, cs, r, h, t, ht => by
    simp only [fillA] at h
    split at h
    · rename_i e
      split at h
      · split at h
        · simp only [slotsP, List.mem_append] at ht
          exact ht.elim (rdV_no e t) (fillA_no h t)
        · cases h
      · cases h
    · cases h
theorem mem_app {α : Type} {p : α → Prop} {a b : List α} (h1 : ∀ t ∈ a, p t) (h2 : ∀ t ∈ b, p t) : ∀ t ∈ a ++ b, p t := fun t ht => (List.mem_append.1 ht).elim (h1 t) (h2 t)
theorem ev_no {d : Nat} {bs bs' : Bxs} {st st' : St} {op : AOp} {tv : TV} (h : ev E inv d ts bs st op = some (tv, bs', st')) : ∀ t ∈ op.uses, lookT t ts ≠ some .no := by
  cases op <;> simp only [ev] at h <;> simp only [AOp.uses]
  case mov x => split at h; rename_i e; exact rdT_no e; cases h
  case pick x y z =>
    split at h
    · rename_i e
      split at h
      · rename_i e1
        split at h
        · rename_i e2; exact mem_app (mem_app (rdV_no e) (rdT_no e1)) (rdT_no e2)
        · cases h
      · cases h
    · cases h
  case new lc zero => intro t ht; cases ht
  case box lc x => split at h; rename_i e; exact rdV_no e; cases h
  case build zero ps => split at h; rename_i e; exact fillA_no e; cases h
  case bslice pu es len zero ps => split at h; rename_i e; exact fillA_no e; cases h
  case load ag n x => split at h; rename_i e; exact rdT_no e; cases h
  case store n x y =>
    split at h
    · rename_i e
      split at h
      · rename_i e1; exact mem_app (rdT_no e) (rdV_no e1)
      · cases h
    · cases h
  case faddr off x => split at h; rename_i e; exact rdT_no e; cases h
  case iaddr es x y =>
    split at h
    · rename_i e
      split at h
      · rename_i e1; exact mem_app (rdV_no e) (rdI_no e1)
      · cases h
    · cases h
  case aaddr es len x y =>
    split at h
    · rename_i e
      split at h
      · rename_i e1; exact mem_app (rdT_no e) (rdI_no e1)
      · cases h
    · cases h
  case field ag off n x => split at h; rename_i e; exact rdV_no e; cases h
  case index ag es len x y =>
    split at h
    · rename_i e
      split at h
      · rename_i e1; exact mem_app (rdV_no e) (rdI_no e1)
      · cases h
    · cases h
  case un o x => split at h; rename_i e; exact rdV_no e; cases h
  case bin o x y =>
    split at h
    · rename_i e
      split at h
      · rename_i e1; exact mem_app (rdV_no e) (rdV_no e1)
      · cases h
    · cases h
  case eqb o x y =>
    split at h
    · rename_i e
      split at h
      · rename_i e1; exact mem_app (rdV_no e) (rdV_no e1)
      · cases h
    · cases h
  case eqs o sg x y =>
    split at h
    · rename_i e
      split at h
      · rename_i e1; exact mem_app (rdV_no e) (rdV_no e1)
      · cases h
    · cases h
  case len x => split at h; rename_i e; exact rdV_no e; cases h
  case mm mx x xs =>
    split at h
    · rename_i e
      split at h
      · rename_i e1; exact mem_app (rdV_no e) (rdVs_no e1)
      · cases h
    · cases h
  case app es e bytes x y =>
    split at h
    · rename_i e
      split at h
      · rename_i e1; exact mem_app (rdV_no e) (rdV_no e1)
      · cases h
    · cases h
  case mks lc es bytes zero x y =>
    split at h
    · rename_i e
      split at h
      · rename_i e1; exact mem_app (rdI_no e) (rdI_no e1)
      · cases h
    · cases h
  case mkm => intro t ht; cases ht
  case look sg zero okq x y =>
    split at h
    · rename_i e
      split at h
      · rename_i e1; exact mem_app (rdV_no e) (rdV_no e1)
      · cases h
    · cases h
  case upd sg x y z =>
    split at h
    · rename_i e
      split at h
      · rename_i e1
        split at h
        · split at h
          · rename_i e2; exact mem_app (mem_app (rdV_no e) (rdV_no e1)) (rdV_no e2)
          · cases h
        · cases h
      · cases h
    · cases h
  case slc es x a b c =>
    split at h
    · rename_i e
      split at h
      · rename_i e1
        split at h
        · rename_i e2
          split at h
          · rename_i e3; exact mem_app (mem_app (mem_app (rdV_no e) (rdO_no e1)) (rdO_no e2)) (rdO_no e3)
          · cases h
        · cases h
      · cases h
    · cases h
  case mkf f fs cs =>
    split at h
    · rename_i e
      split at h
      · rename_i e1; exact mem_app (rdVs_no e) (rdVs_no e1)
      · cases h
    · cases h
  case ext i x => split at h; rename_i e; exact rdV_no e; cases h
  case call raw fz f args =>
    split at h
    · rename_i e
      split at h
      · split at h
        · rename_i e1; exact mem_app (rdV_no e) (rdVs_no e1)
        · cases h
      · cases h
    · cases h

/-! ### Boxes and objects -/
def TV.box : TV → Option Nat
  | .loc s _ => some s
  | .lsl s _ _ _ => some s
  | _ => none
theorem boxesOf_mem {t : Nat} {v : TV} {s : Nat} (h : lookT t ts = some v) (hv : v.box = some s) : ∀ {l : List Nat}, t ∈ l → Mem.slot s ∈ boxesOf ts l
  | [], ht => by cases ht
  | k :: l, ht => by
    simp only [boxesOf]
    rcases List.mem_cons.1 ht with rfl | ht
    · rw [h]
      cases v <;> simp [TV.box] at hv
      · subst hv; simp
      · subst hv; simp
    · have := boxesOf_mem h hv ht
      split
      · exact List.mem_cons_of_mem _ this
      · exact List.mem_cons_of_mem _ this
      · exact this
theorem rdT_look {x : AX} {v : TV} {s : Nat} (h : rdT ts x = some v) (hv : v.box = some s) : ∃ t ∈ x.slot, lookT t ts = some v := by
  cases x with
  | t n =>
    refine ⟨n, by simp [AX.slot], ?_⟩
    simp only [rdT] at h
    unfold noNo at h
    split at h
    · cases h
    · exact h
  | c v => simp [rdT] at h; subst h; simp [TV.box] at hv
  | g n => simp [rdT] at h; subst h; simp [TV.box] at hv
  | f n => simp [rdT] at h; subst h; simp [TV.box] at hv
theorem rdT_acc {x : AX} {v : TV} {s : Nat} {op : AOp} (h : rdT ts x = some v) (hv : v.box = some s) (hx : ∀ t ∈ x.slot, t ∈ op.uses) : Mem.slot s ∈ accOf ts op := by
  obtain ⟨t, ht, e⟩ := rdT_look h hv
  exact List.mem_append_left _ (boxesOf_mem e hv (hx t ht))
/-- Two objects that a reader cannot tell apart. -/
def SameO (o o' : Option AObj) : Prop := o' = o ∨ ∃ v gr cs, (o = some (.cells v gr cs) ∧ o' = some (.frz v cs)) ∨ (o' = some (.cells v gr cs) ∧ o = some (.frz v cs))
theorem SameO.map {o o' : Option AObj} (h : SameO o o') {es : List (List AV × AV)} (e : o = some (.map es)) : o' = some (.map es) := by
  rcases h with h | ⟨v, gr, cs, ⟨h, _⟩ | ⟨_, h⟩⟩
  · rw [h, e]
  · rw [h] at e; cases e
  · rw [h] at e; cases e
theorem cellsAt_same {G : Nat → Option (List AV)} {bs bs2 : Bxs} {st st2 : St} {p : TV} (hb : ∀ s, p.box = some s → lookB s bs2 = lookB s bs) (ho : ∀ id, Mem.obj id ∈ objOf (some p) → SameO (st.heap[id]?) (st2.heap[id]?)) {cs : List AV} (h : cellsAt G bs st p = some cs) :
    cellsAt G bs2 st2 p = some cs := by
  cases p with
  | loc s off => simp only [cellsAt] at h ⊢; rw [hb s rfl]; exact h
  | lsl s es n k => simp [cellsAt] at h
  | und => simp [cellsAt] at h
  | no => simp [cellsAt] at h
  | v a =>
    cases a <;> simp only [cellsAt] at h ⊢
    case ref id ver off =>
      rcases ho id (by simp [objOf]) with e | ⟨u, gr, cs0, ⟨e1, e2⟩ | ⟨e1, e2⟩⟩
      · rw [e]; exact h
      · rw [e1] at h; rw [e2]; exact h
      · rw [e2] at h; rw [e1]; exact h
    all_goals first | exact h | cases h

/-- What an operation does by itself: the boxes that it lays on top; the heap, if it has to do with it. -/
def EvLoc (E : Env) (inv : Inv) (d : Nat) (ts : List (Nat × TV)) (bs : Bxs) (st : St) (op : AOp) (tv : TV) (bs' : Bxs) (st' : St) : Prop :=
  ∃ δ : Bxs, bs' = δ ++ bs ∧ (∀ p ∈ δ, boxOf op d ts = some p.1) ∧ (heffOf op ts = false → st' = st) ∧ (∀ s, tv.box = some s → nlOf op d = some s ∨ Mem.slot s ∈ accOf ts op) ∧ (∀ s, boxOf op d ts = some s → nlOf op d = some s ∨ Mem.slot s ∈ accOf ts op) ∧
    ∀ bs2 st2, (∀ s, Mem.slot s ∈ accOf ts op → lookB s bs2 = lookB s bs) → (∀ id, Mem.obj id ∈ accOf ts op → SameO (st.heap[id]?) (st2.heap[id]?)) → (heffOf op ts = true → st2 = st) →
      ev E inv d ts bs2 st2 op = some (tv, δ ++ bs2, if heffOf op ts then st' else st2)
theorem EvLoc.plain {d : Nat} {bs : Bxs} {st : St} {op : AOp} {tv : TV} (h : ∀ bs2 st2, ev E inv d ts bs2 st2 op = some (tv, bs2, st2)) (he : heffOf op ts = false) (hb : boxOf op d ts = none) (ht : ∀ s, tv.box = some s → nlOf op d = some s ∨ Mem.slot s ∈ accOf ts op) :
    EvLoc E inv d ts bs st op tv bs st :=
  ⟨[], rfl, by simp, fun _ => rfl, ht, fun s hs => (by rw [hb] at hs; cases hs), fun bs2 st2 _ _ _ => by rw [h, he]; rfl⟩
theorem EvLoc.heavy {d : Nat} {bs : Bxs} {st st' : St} {op : AOp} {a : AV} (h : ∀ bs2, ev E inv d ts bs2 st op = some (.v a, bs2, st')) (he : heffOf op ts = true) (hb : boxOf op d ts = none) : EvLoc E inv d ts bs st op (.v a) bs st' :=
  ⟨[], rfl, by simp, fun e => (by rw [he] at e; cases e), fun s hs => (by simp [TV.box] at hs), fun s hs => (by rw [hb] at hs; cases hs), fun bs2 st2 _ _ h2 => by rw [h2 he, h, he]; rfl⟩
theorem EvLoc.heavyU {d : Nat} {bs : Bxs} {st st' : St} {op : AOp} (h : ∀ bs2, ev E inv d ts bs2 st op = some (.und, bs2, st')) (he : heffOf op ts = true) (hb : boxOf op d ts = none) : EvLoc E inv d ts bs st op .und bs st' :=
  ⟨[], rfl, by simp, fun e => (by rw [he] at e; cases e), fun s hs => (by simp [TV.box] at hs), fun s hs => (by rw [hb] at hs; cases hs), fun bs2 st2 _ _ h2 => by rw [h2 he, h, he]; rfl⟩
/-- A new box of the frame's own. -/
theorem EvLoc.nbox {d : Nat} {bs : Bxs} {st : St} {op : AOp} {tv : TV} {cs : List AV} (h : ∀ bs2 st2, ev E inv d ts bs2 st2 op = some (tv, (d, cs) :: bs2, st2)) (he : heffOf op ts = false) (hb : boxOf op d ts = some d) (hn : nlOf op d = some d) (ht : tv.box = some d) :
    EvLoc E inv d ts bs st op tv ((d, cs) :: bs) st :=
  ⟨[(d, cs)], rfl, by simp [hb], fun _ => rfl, fun s hs => (by rw [ht] at hs; cases hs; exact .inl hn), fun s hs => (by rw [hb] at hs; cases hs; exact .inl hn), fun bs2 st2 _ _ _ => by rw [h, he]; rfl⟩
theorem addP_box {off : Nat} {p q : TV} (h : addP off p = some q) : q.box = p.box := by
  unfold addP at h
  split at h <;> simp at h <;> subst h <;> rfl
theorem iaddrA_box {es : Nat} {a : AV} {i : Int} {q : TV} (h : iaddrA es a i = some q) : q.box = none := by
  unfold iaddrA at h
  split at h
  · split at h <;> simp at h; subst h; rfl
  · split at h <;> simp at h; subst h; rfl
  · cases h
theorem ev_local {d : Nat} {bs bs' : Bxs} {st st' : St} {op : AOp} {tv : TV} (h : ev E inv d ts bs st op = some (tv, bs', st')) : EvLoc E inv d ts bs st op tv bs' st' := by
  cases op <;> simp only [ev] at h
  case mov x =>
    split at h
    · rename_i e
      simp at h; obtain ⟨rfl, rfl, rfl⟩ := h
      exact .plain (fun _ _ => by simp [ev, e]) rfl rfl (fun s hs => .inr (rdT_acc e hs (fun t ht => ht)))
    · cases h
  case pick x y z =>
    split at h
    · rename_i e
      split at h
      · rename_i e1
        split at h
        · rename_i e2
          simp at h; obtain ⟨rfl, rfl, rfl⟩ := h
          refine .plain (fun _ _ => by simp [ev, e, e1, e2]) rfl rfl (fun s hs => .inr ?_)
          split at hs
          · exact rdT_acc e1 hs (fun t ht => by simp [AOp.uses, ht])
          · exact rdT_acc e2 hs (fun t ht => by simp [AOp.uses, ht])
        · cases h
      · cases h
    · cases h
  case new lc zero =>
    cases lc with
    | true =>
      simp [newBox] at h; obtain ⟨rfl, rfl, rfl⟩ := h
      exact .nbox (fun _ _ => by simp [ev, newBox]) rfl rfl rfl rfl
    | false =>
      simp [newBox] at h; obtain ⟨rfl, rfl, rfl⟩ := h
      exact .heavy (fun _ => by simp [ev, newBox]) rfl rfl
  case box lc x =>
    split at h
    · rename_i e
      split at h
      · rename_i e1
        cases lc with
        | true =>
          simp [newBox] at h; obtain ⟨rfl, rfl, rfl⟩ := h
          exact .nbox (fun _ _ => by simp [ev, newBox, e, e1]) rfl rfl rfl rfl
        | false =>
          simp [newBox] at h; obtain ⟨rfl, rfl, rfl⟩ := h
          exact .heavy (fun _ => by simp [ev, newBox, e, e1]) rfl rfl
      · cases h
    · cases h
  case build zero ps =>
    split at h
    · rename_i e
      simp at h; obtain ⟨rfl, rfl, rfl⟩ := h
      exact .plain (fun _ _ => by simp [ev, e]) rfl rfl (by simp [TV.box])
    · cases h
  case bslice pu es len zero ps =>
    split at h
    · rename_i e
      cases pu with
      | true =>
        simp at h; obtain ⟨rfl, rfl, rfl⟩ := h
        exact .plain (fun _ _ => by simp [ev, e]) rfl rfl (by simp [TV.box])
      | false =>
        simp at h; obtain ⟨rfl, rfl, rfl⟩ := h
        exact .heavy (fun _ => by simp [ev, e]) rfl rfl
    · cases h
  case load ag n x =>
    split at h
    · rename_i p e
      split at h
      · rename_i cs e1
        split at h
        · rename_i e2
          simp at h; obtain ⟨rfl, rfl, rfl⟩ := h
          refine ⟨[], rfl, by simp, fun _ => rfl, by simp [TV.box], by simp [boxOf], fun bs2 st2 hb ho _ => ?_⟩
          have := cellsAt_same (bs2 := bs2) (st2 := st2) (fun s hs => hb s (rdT_acc (op := .load ag n x) e hs (fun t ht => ht))) (fun id hid => ho id (List.mem_append_right _ (by simp only []; rw [e]; exact hid))) e1
          simp [ev, e, this, e2, heffOf]
        · cases h
      · cases h
    · cases h
  case store n x y =>
    split at h
    · rename_i p e
      split at h
      · rename_i a e1
        split at h
        · rename_i b' s' e2
          simp at h; obtain ⟨rfl, rfl, rfl⟩ := h
          unfold storeA at e2
          split at e2
          case h_2 => cases e2
          rename_i new hnew
          split at e2
          case isFalse => cases e2
          rename_i hlen
          split at e2
          · rename_i s off
            split at e2
            · rename_i cs hb
              split at e2
              · rename_i hle
                simp at e2; obtain ⟨rfl, rfl⟩ := e2
                have hacc := rdT_acc (op := .store n x y) (s := s) e rfl (fun t ht => by simp [AOp.uses, ht])
                refine ⟨[(s, splice cs off new)], rfl, by simp [boxOf, e], fun _ => rfl, by simp [TV.box], fun s' hs => ?_, fun bs2 st2 hb2 _ _ => ?_⟩
                · simp only [boxOf, e, Option.some.injEq] at hs; subst hs; exact .inr hacc
                · simp [ev, e, e1, storeA, hnew, hlen, hb2 s hacc, hb, hle, heffOf]
              · cases e2
            · cases e2
          · rename_i id ver off
            split at e2
            · rename_i hob
              split at e2
              · rename_i hle
                simp at e2; obtain ⟨rfl, rfl⟩ := e2
                exact .heavyU (fun _ => by simp [ev, e, e1, storeA, hnew, hlen, hob, hle]) (by simp [heffOf, e]) (by simp [boxOf, e])
              · cases e2
            · cases e2
          · cases e2
        · cases h
      · cases h
    · cases h
  case faddr off x =>
    split at h
    · rename_i e
      split at h
      · rename_i e1
        simp at h; obtain ⟨rfl, rfl, rfl⟩ := h
        exact .plain (fun _ _ => by simp [ev, e, e1]) rfl rfl (fun s hs => .inr (rdT_acc e (addP_box e1 ▸ hs) (fun t ht => ht)))
      · cases h
    · cases h
  case iaddr es x y =>
    split at h
    · rename_i e
      split at h
      · rename_i e1
        split at h
        · rename_i e2
          simp at h; obtain ⟨rfl, rfl, rfl⟩ := h
          exact .plain (fun _ _ => by simp [ev, e, e1, e2]) rfl rfl (fun s hs => by rw [iaddrA_box e2] at hs; cases hs)
        · cases h
      · cases h
    · cases h
  case aaddr es len x y =>
    split at h
    · rename_i e
      split at h
      · rename_i e1
        split at h
        · rename_i hb
          split at h
          · rename_i e2
            simp at h; obtain ⟨rfl, rfl, rfl⟩ := h
            exact .plain (fun _ _ => by simp [ev, e, e1, e2, hb]) rfl rfl (fun s hs => .inr (rdT_acc e (addP_box e2 ▸ hs) (fun t ht => by simp [AOp.uses, ht])))
          · cases h
        · cases h
      · cases h
    · cases h
  case field ag off n x =>
    split at h
    · rename_i e
      split at h
      · rename_i e1
        simp at h; obtain ⟨rfl, rfl, rfl⟩ := h
        exact .plain (fun _ _ => by simp [ev, e, e1]) rfl rfl (by simp [TV.box])
      · cases h
    · cases h
  case index ag es len x y =>
    split at h
    · rename_i e
      split at h
      · rename_i e1
        split at h
        · rename_i hb
          split at h
          · rename_i e2
            simp at h; obtain ⟨rfl, rfl, rfl⟩ := h
            exact .plain (fun _ _ => by simp [ev, e, e1, e2, hb]) rfl rfl (by simp [TV.box])
          · cases h
        · cases h
      · cases h
    · cases h
  case un o x =>
    split at h
    · rename_i e
      split at h
      · rename_i e1
        simp at h; obtain ⟨rfl, rfl, rfl⟩ := h
        exact .plain (fun _ _ => by simp [ev, e, e1]) rfl rfl (by simp [TV.box])
      · cases h
    · cases h
  case bin o x y =>
    split at h
    · rename_i e
      split at h
      · rename_i e1
        split at h
        · rename_i e2
          simp at h; obtain ⟨rfl, rfl, rfl⟩ := h
          exact .plain (fun _ _ => by simp [ev, e, e1, e2]) rfl rfl (by simp [TV.box])
        · cases h
      · cases h
    · cases h
  case eqb o x y =>
    split at h
    · rename_i e
      split at h
      · rename_i e1
        simp only [Option.some.injEq, Prod.mk.injEq] at h; obtain ⟨rfl, rfl, rfl⟩ := h
        exact .plain (fun _ _ => by simp [ev, e, e1]) rfl rfl (by simp [TV.box])
      · cases h
    · cases h
  case eqs o sg x y =>
    split at h
    · rename_i e
      split at h
      · rename_i e1
        split at h
        · rename_i e2
          simp at h; obtain ⟨rfl, rfl, rfl⟩ := h
          exact .plain (fun _ _ => by simp [ev, e, e1, e2]) rfl rfl (by simp [TV.box])
        · cases h
      · cases h
    · cases h
  case len x =>
    split at h
    · rename_i e
      split at h
      · rename_i e1
        simp at h; obtain ⟨rfl, rfl, rfl⟩ := h
        exact .plain (fun _ _ => by simp [ev, e, e1]) rfl rfl (by simp [TV.box])
      · cases h
    · cases h
  case mm mx x xs =>
    split at h
    · rename_i e
      split at h
      · rename_i e1
        split at h
        · rename_i e2
          simp at h; obtain ⟨rfl, rfl, rfl⟩ := h
          exact .plain (fun _ _ => by simp [ev, e, e1, e2]) rfl rfl (by simp [TV.box])
        · cases h
      · cases h
    · cases h
  case app es e bytes x y =>
    split at h
    · rename_i e
      split at h
      · rename_i e1
        split at h
        · rename_i e2
          simp at h; obtain ⟨rfl, rfl, rfl⟩ := h
          exact .heavy (fun _ => by simp [ev, e, e1, e2]) rfl rfl
        · cases h
      · cases h
    · cases h
  case mks lc es bytes zero x y =>
    split at h
    · rename_i e
      split at h
      · rename_i e1
        split at h
        · rename_i hb
          cases lc with
          | true =>
            simp at h; obtain ⟨rfl, rfl, rfl⟩ := h
            exact .nbox (fun _ _ => by simp [ev, e, e1, hb]) rfl rfl rfl rfl
          | false =>
            simp at h; obtain ⟨rfl, rfl, rfl⟩ := h
            exact .heavy (fun _ => by simp [ev, e, e1, hb]) rfl rfl
        · cases h
      · cases h
    · cases h
  case mkm =>
    simp at h; obtain ⟨rfl, rfl, rfl⟩ := h
    exact .heavy (fun _ => by simp [ev]) rfl rfl
  case look sg zero okq m k =>
    split at h
    · rename_i id e
      split at h
      · rename_i e1
        split at h
        · rename_i hl
          split at h
          · rename_i es e2
            split at h
            · rename_i e3
              simp at h; obtain ⟨rfl, rfl, rfl⟩ := h
              refine ⟨[], rfl, by simp, fun _ => rfl, by simp [TV.box], by simp [boxOf], fun bs2 st2 hb ho _ => ?_⟩
              have := (ho id (List.mem_append_right _ (by simp only []; rw [rdV_some e]; simp [objOf]))).map e2
              simp [ev, e, e1, hl, this, e3, heffOf]
            · cases h
          · cases h
        · cases h
      · cases h
    · cases h
  case upd sg m k v =>
    split at h
    · rename_i id e
      split at h
      · rename_i e1
        split at h
        · rename_i hl
          split at h
          · rename_i e2
            split at h
            · rename_i e3
              split at h
              · rename_i e4
                simp at h; obtain ⟨rfl, rfl, rfl⟩ := h
                exact .heavyU (fun _ => by simp [ev, e, e1, hl, e2, e3, e4]) rfl rfl
              · cases h
            · cases h
          · cases h
        · cases h
      · cases h
    · cases h
  case slc es x a b c =>
    split at h
    · rename_i e
      split at h
      · rename_i e1
        split at h
        · rename_i e2
          split at h
          · rename_i e3
            split at h
            · rename_i e4
              simp at h; obtain ⟨rfl, rfl, rfl⟩ := h
              exact .plain (fun _ _ => by simp [ev, e, e1, e2, e3, e4]) rfl rfl (by simp [TV.box])
            · cases h
          · cases h
        · cases h
      · cases h
    · cases h
  case mkf f fs cs =>
    split at h
    · rename_i e
      split at h
      · rename_i e1
        simp at h; obtain ⟨rfl, rfl, rfl⟩ := h
        exact .plain (fun _ _ => by simp [ev, e, e1]) rfl rfl (by simp [TV.box])
      · cases h
    · cases h
  case ext i x =>
    split at h
    · rename_i e
      split at h
      · rename_i e1
        simp at h; obtain ⟨rfl, rfl, rfl⟩ := h
        exact .plain (fun _ _ => by simp [ev, e, e1]) rfl rfl (by simp [TV.box])
      · cases h
    · cases h
  case call raw fz f args =>
    split at h
    · rename_i e
      split at h
      · rename_i e1
        split at h
        · rename_i e2
          split at h
          · rename_i e3
            split at h
            · rename_i e4
              simp at h; obtain ⟨rfl, rfl, rfl⟩ := h
              exact .heavy (fun _ => by simp [ev, e, e1, e2, e3, e4]) rfl rfl
            · cases h
          · cases h
        · cases h
      · cases h
    · cases h
end
end Go.Proofs.AM

namespace Go.Proofs.AM
open Go

def nrm (st : St) : St := { st with low := st.heap.length }
def rlN : Option Nat → List (Nat × TV) → List (Nat × TV)
  | none, ts => ts
  | some s, ts => dropLoc s ts
def nlO (o : AO) (ts : List (Nat × TV)) : Option Nat := if wantA ts o.guard = some true then nlOf o.op (o.dst.getD 0) else none

section
variable {E : Env} {inv : Inv}
theorem boxesOf_ts {ts ts2 : List (Nat × TV)} : ∀ {l : List Nat}, (∀ t ∈ l, lookT t ts2 = lookT t ts) → boxesOf ts2 l = boxesOf ts l
  | [], _ => rfl
  | t :: l, h => by
    simp only [boxesOf]
    rw [h t (by simp), boxesOf_ts (fun t ht => h t (by simp [ht]))]
theorem accOf_ts {ts ts2 : List (Nat × TV)} {op : AOp} (h : ∀ t ∈ op.uses, lookT t ts2 = lookT t ts) : accOf ts2 op = accOf ts op := by
  unfold accOf
  rw [boxesOf_ts h]
  cases op <;> simp only [AOp.uses, List.mem_append] at h <;> try rfl
  · rename_i x; simp only []; rw [rdT_eq (x := x) h]
  · rename_i m k; simp only []; rw [rdT_eq (x := m) (fun t ht => h t (.inl ht))]
theorem heffOf_ts {ts ts2 : List (Nat × TV)} {op : AOp} (h : ∀ t ∈ op.uses, lookT t ts2 = lookT t ts) : heffOf op ts2 = heffOf op ts := by
  cases op <;> simp only [AOp.uses, List.mem_append] at h <;> try rfl
  rename_i n x y
  simp only [heffOf]
  rw [rdT_eq (x := x) (fun t ht => h t (.inl ht))]
theorem boxOf_ts {ts ts2 : List (Nat × TV)} {op : AOp} {d : Nat} (h : ∀ t ∈ op.uses, lookT t ts2 = lookT t ts) : boxOf op d ts2 = boxOf op d ts := by
  cases op <;> simp only [AOp.uses, List.mem_append] at h
  case store n x y =>
    simp only [boxOf]
    rw [rdT_eq (x := x) (fun t ht => h t (.inl ht))]
  case new lc zero => cases lc <;> rfl
  case box lc x => cases lc <;> rfl
  case mks lc es bytes zero x y => cases lc <;> rfl
  all_goals rfl
theorem boxOf_nl {ts : List (Nat × TV)} {op : AOp} {d s : Nat} (h : nlOf op d = some s) : boxOf op d ts = some s ∧ s = d := by
  cases op <;> simp [nlOf] at h
  case new lc zero => cases lc <;> simp [nlOf] at h; subst h; exact ⟨rfl, rfl⟩
  case box lc x => cases lc <;> simp [nlOf] at h; subst h; exact ⟨rfl, rfl⟩
  case mks lc es bytes zero x y => cases lc <;> simp [nlOf] at h; subst h; exact ⟨rfl, rfl⟩

structure StepLoc (E : Env) (inv : Inv) (o : AO) (fr : Fr) (st : St) (fr' : Fr) (st' : St) (δ : Bxs) (tv : TV) (nl : Option Nat) (T : Tr) : Prop where
  ts : fr'.ts = putD o.dst tv (rlN nl fr.ts)
  bs : fr'.bs = δ ++ fr.bs
  db : ∀ p ∈ δ, T.box = some p.1
  pure : T.eff = none → st' = st
  eff : T.eff.isSome = true → T.eff = some (min st'.low st.heap.length)
  nle : ∀ s, nl = some s → o.dst = some s ∧ T.box = some s
  tb : ∀ s, tv.box = some s → nl = some s ∨ Mem.slot s ∈ T.acc
  bx : ∀ s, T.box = some s → nl = some s ∨ Mem.slot s ∈ T.acc
  no : wantA fr.ts o.guard = some true → ∀ t ∈ o.op.uses, lookT t fr.ts ≠ some .no
  ac : wantA fr.ts o.guard = some true → ∀ t ∈ o.op.uses, ∀ v s, lookT t fr.ts = some v → v.box = some s → Mem.slot s ∈ T.acc
  gd : ∀ g, o.guard = some g → ∃ v, lookT g.1 fr.ts = some v ∧ v.box = none ∧ v ≠ .no
  again : ∀ fr2 st2, (wantA fr.ts o.guard = some true → ∀ t ∈ o.op.uses, lookT t fr2.ts = lookT t fr.ts) → (∀ g, o.guard = some g → lookT g.1 fr2.ts = lookT g.1 fr.ts) → (∀ s, Mem.slot s ∈ T.acc → lookB s fr2.bs = lookB s fr.bs) →
    (∀ id, Mem.obj id ∈ T.acc → SameO (st.heap[id]?) (st2.heap[id]?)) → (T.eff.isSome = true → st2 = st) →
    stepO E inv o fr2 st2 = some ({ ts := putD o.dst tv (rlN nl fr2.ts), bs := δ ++ fr2.bs }, if T.eff.isSome then st' else st2) ∧ trOf o fr2.ts st2 (if T.eff.isSome then st' else st2) = T
theorem wantA_eq {ts ts2 : List (Nat × TV)} {g : Option (Nat × Bool)} (h : ∀ q, g = some q → lookT q.1 ts2 = lookT q.1 ts) : wantA ts2 g = wantA ts g := by
  cases g with
  | none => rfl
  | some q =>
    obtain ⟨s, w⟩ := q
    simp only [wantA]
    rw [h (s, w) rfl]
theorem wantA_gd {ts : List (Nat × TV)} {g : Option (Nat × Bool)} {b : Bool} (h : wantA ts g = some b) : ∀ q, g = some q → ∃ v, lookT q.1 ts = some v ∧ v.box = none ∧ v ≠ .no := by
  intro q e
  subst e
  obtain ⟨s, w⟩ := q
  simp only [wantA] at h
  split at h
  · rename_i e; exact ⟨_, e, rfl, by simp⟩
  · rename_i e; exact ⟨_, e, rfl, by simp⟩
  · cases h
theorem stepO_local {o : AO} {fr fr' : Fr} {st st' : St} (hd : okDst o = true) (h : stepO E inv o fr st = some (fr', st')) : ∃ δ tv nl, StepLoc E inv o fr st fr' st' δ tv nl (trOf o fr.ts st st') := by
  unfold stepO at h
  split at h
  · rename_i hw
    split at h
    · rename_i tv bs' st2 e
      simp only [Option.some.injEq, Prod.mk.injEq] at h
      obtain ⟨rfl, rfl⟩ := h
      obtain ⟨δ, hb, h1, h2, h3, h4, h5⟩ := ev_local e
      have hT : trOf o fr.ts st st2 = { acc := accOf fr.ts o.op, box := boxOf o.op (o.dst.getD 0) fr.ts, eff := if heffOf o.op fr.ts then some (min st2.low st.heap.length) else none } := by unfold trOf; rw [if_pos hw]
      have hes : (trOf o fr.ts st st2).eff.isSome = heffOf o.op fr.ts := by rw [hT]; simp only []; cases heffOf o.op fr.ts <;> rfl
      have hrl : ∀ ts : List (Nat × TV), reLoc o.op (o.dst.getD 0) ts = rlN (nlOf o.op (o.dst.getD 0)) ts := by
        intro ts
        rcases reLoc_nl (op := o.op) (d := o.dst.getD 0) (ts := ts) with ⟨e1, e2⟩ | ⟨e1, e2⟩
        · rw [e2, e1]; rfl
        · rw [e2, e1]; rfl
      refine ⟨δ, tv, nlOf o.op (o.dst.getD 0), { ts := by simp only []; rw [hrl], bs := hb, db := by rw [hT]; exact h1, pure := fun he => ?_, eff := fun he => ?_, nle := fun s hs => ?_, tb := by rw [hT]; exact h3, bx := by rw [hT]; exact h4, no := fun _ => ev_no e, ac := fun _ t ht v s hv hb => ?_, gd := wantA_gd hw, again := ?_ }⟩
      · rw [hT] at he
        refine h2 ?_
        cases hx : heffOf o.op fr.ts with
        | false => rfl
        | true => rw [hx] at he; cases he
      · rw [hes] at he
        rw [hT]; simp only []; rw [if_pos he]
      · obtain ⟨e1, e2⟩ := boxOf_nl (ts := fr.ts) hs
        refine ⟨?_, by rw [hT]; exact e1⟩
        subst e2
        unfold okDst at hd
        cases hop : o.op <;> rw [hop] at hs <;> simp [nlOf] at hs <;> rw [hop] at hd <;> simp only at hd <;> obtain ⟨d, hd'⟩ := Option.isSome_iff_exists.1 hd <;> simp [hd']
      · rw [hT]; exact List.mem_append_left _ (boxesOf_mem hv hb ht)
      · intro fr2 st3 hu hg hbx hob hst
        have hu := hu hw
        have hw2 : wantA fr2.ts o.guard = some true := by rw [wantA_eq hg]; exact hw
        rw [hes] at hst ⊢
        have hev : ev E inv (o.dst.getD 0) fr2.ts fr2.bs st3 o.op = some (tv, δ ++ fr2.bs, if heffOf o.op fr.ts then st2 else st3) := by
          rw [ev_ts hu]
          exact h5 fr2.bs st3 (by rw [hT] at hbx; exact hbx) (by rw [hT] at hob; exact hob) hst
        refine ⟨?_, ?_⟩
        · unfold stepO
          rw [hw2]
          simp only []
          rw [hev]
          simp only []
          rw [hrl]
        · unfold trOf
          rw [if_pos hw2, if_pos hw, accOf_ts hu, boxOf_ts hu, heffOf_ts hu]
          cases hx : heffOf o.op fr.ts with
          | false => rfl
          | true => simp only [if_true]; rw [hst hx]
    · cases h
  · rename_i hw
    simp only [Option.some.injEq, Prod.mk.injEq] at h
    obtain ⟨rfl, rfl⟩ := h
    have hne : wantA fr.ts o.guard ≠ some true := by rw [hw]; simp
    have hT : trOf o fr.ts st st = { acc := [], box := none, eff := none } := by unfold trOf; rw [if_neg hne]
    refine ⟨[], .und, none, { ts := rfl, bs := rfl, db := by simp, pure := fun _ => rfl, eff := by rw [hT]; simp, nle := by simp, tb := by simp [TV.box], bx := by rw [hT]; simp, no := fun h => absurd h hne, ac := fun h => absurd h hne, gd := wantA_gd hw, again := ?_ }⟩
    intro fr2 st3 _ hg _ _ _
    have hw2 : wantA fr2.ts o.guard = some false := by rw [wantA_eq hg]; exact hw
    rw [hT]
    refine ⟨?_, ?_⟩
    · unfold stepO
      rw [hw2]
      rfl
    · unfold trOf
      rw [if_neg (by rw [hw2]; simp)]
  · cases h

/-! ### Frames that say the same -/
def FrEq (a b : Fr) : Prop := (∀ t, lookT t a.ts = lookT t b.ts) ∧ ∀ s, lookB s a.bs = lookB s b.bs
theorem FrEq.refl (a : Fr) : FrEq a a := ⟨fun _ => rfl, fun _ => rfl⟩
theorem FrEq.symm {a b : Fr} (h : FrEq a b) : FrEq b a := ⟨fun t => (h.1 t).symm, fun s => (h.2 s).symm⟩
theorem FrEq.trans {a b c : Fr} (h : FrEq a b) (k : FrEq b c) : FrEq a c := ⟨fun t => (h.1 t).trans (k.1 t), fun s => (h.2 s).trans (k.2 s)⟩
def dlN : Option Nat → TV → TV
  | none, v => v
  | some s, v => v.dl s
theorem lookT_rlN (nl : Option Nat) (t : Nat) (ts : List (Nat × TV)) : lookT t (rlN nl ts) = (lookT t ts).map (dlN nl) := by
  cases nl with
  | none => simp only [rlN]; cases lookT t ts <;> rfl
  | some s => exact lookT_dropLoc s t ts
theorem lookT_putD (dst : Option Nat) (tv : TV) (ts : List (Nat × TV)) (t : Nat) : lookT t (putD dst tv ts) = if dst = some t then some tv else lookT t ts := by
  cases dst with
  | none => simp [putD]
  | some d =>
    simp only [putD, lookT, Option.some.injEq]
theorem lookB_app (δ bs : Bxs) (s : Nat) : lookB s (δ ++ bs) = match lookB s δ with | some x => some x | none => lookB s bs := by
  induction δ with
  | nil => rfl
  | cons p δ ih =>
    obtain ⟨k, v⟩ := p
    simp only [List.cons_append, lookB]
    split
    · rfl
    · exact ih
theorem lookB_key {δ : Bxs} {s : Nat} {x : List AV} (h : lookB s δ = some x) : ∃ p ∈ δ, p.1 = s := by
  induction δ with
  | nil => cases h
  | cons p δ ih =>
    obtain ⟨k, v⟩ := p
    rcases lookB_cons h with ⟨e, _⟩ | ⟨_, h⟩
    · exact ⟨(k, v), by simp, e.symm⟩
    · obtain ⟨q, hq, e⟩ := ih h; exact ⟨q, by simp [hq], e⟩
theorem FrEq.step {a b : Fr} (h : FrEq a b) (dst : Option Nat) (tv : TV) (nl : Option Nat) (δ : Bxs) : FrEq { ts := putD dst tv (rlN nl a.ts), bs := δ ++ a.bs } { ts := putD dst tv (rlN nl b.ts), bs := δ ++ b.bs } := by
  refine ⟨fun t => ?_, fun s => ?_⟩
  · simp only [lookT_putD, lookT_rlN, h.1 t]
  · simp only [lookB_app, h.2 s]
theorem stepO_congr {o : AO} {fr fr' fr2 : Fr} {st st' : St} (hd : okDst o = true) (h : stepO E inv o fr st = some (fr', st')) (he : FrEq fr fr2) : ∃ fr2', stepO E inv o fr2 st = some (fr2', st') ∧ FrEq fr' fr2' ∧ trOf o fr2.ts st st' = trOf o fr.ts st st' := by
  obtain ⟨δ, tv, nl, L⟩ := stepO_local hd h
  obtain ⟨h1, h2⟩ := L.again fr2 st (fun _ t _ => (he.1 t).symm) (fun g _ => (he.1 g.1).symm) (fun s _ => (he.2 s).symm) (fun _ _ => .inl rfl) (fun _ => rfl)
  have hst : (if (trOf o fr.ts st st').eff.isSome = true then st' else st) = st' := by
    split
    · rfl
    · rename_i hne
      exact (L.pure (by simpa using hne)).symm
  rw [hst] at h1 h2
  refine ⟨_, h1, ?_, h2⟩
  have := he.step o.dst tv nl δ
  rw [← L.ts, ← L.bs] at this
  exact this
theorem opsT_congr : ∀ {os : List AO} {fr fr' fr2 : Fr} {st st' : St} {l : List Tr}, os.all okDst = true → opsT E inv os fr st = some (l, fr', st') → FrEq fr fr2 → ∃ fr2', opsT E inv os fr2 st = some (l, fr2', st') ∧ FrEq fr' fr2'
  | [], fr, fr', fr2, st, st', l, _, h, he => by
    simp [opsT] at h
    obtain ⟨rfl, rfl, rfl⟩ := h
    exact ⟨fr2, rfl, he⟩
  | o :: os, fr, fr', fr2, st, st', l, hd, h, he => by
    simp only [List.all_cons, Bool.and_eq_true] at hd
    simp only [opsT] at h ⊢
    split at h
    · rename_i fr1 st1 e
      split at h
      · rename_i l1 fr3 st3 e3
        simp only [Option.some.injEq, Prod.mk.injEq] at h
        obtain ⟨rfl, rfl, rfl⟩ := h
        obtain ⟨fr4, h1, h2, h3⟩ := stepO_congr hd.1 e he
        obtain ⟨fr5, h4, h5⟩ := opsT_congr hd.2 e3 h2
        rw [h1]
        simp only [h4, h3]
        exact ⟨fr5, rfl, h5⟩
      · cases h
    · cases h

/-! ### The swap -/
theorem pairOk_spec {a b : AO} {ta tb : Tr} (h : pairOk a b ta tb = true) :
    (∀ d, a.dst = some d → d ∉ b.uses ∧ b.dst ≠ some d) ∧ (∀ d, b.dst = some d → d ∉ a.uses) ∧ (ta.eff.isSome = true → tb.eff.isSome = true → False) ∧ (∀ m ∈ tb.acc, hits ta m = false) ∧ (∀ m ∈ ta.acc, hits tb m = false) := by
  simp only [pairOk, Bool.and_eq_true] at h
  obtain ⟨⟨⟨⟨h1, h2⟩, h3⟩, h4⟩, h5⟩ := h
  refine ⟨fun d hd => ?_, fun d hd => ?_, fun e1 e2 => ?_, fun m hm => ?_, fun m hm => ?_⟩
  · rw [hd] at h1; simpa using h1
  · rw [hd] at h2; simpa using h2
  · rw [e1, e2] at h3; cases h3
  · simpa using (List.all_eq_true.1 h4) m hm
  · simpa using (List.all_eq_true.1 h5) m hm
theorem hits_slot {t : Tr} {s : Nat} (h : hits t (.slot s) = false) : t.box ≠ some s := by
  simp only [hits] at h
  intro e; rw [e] at h; simp at h
theorem uses_op {o : AO} {t : Nat} (h : t ∈ o.op.uses) : t ∈ o.uses := List.mem_append_left _ h
theorem uses_gd {o : AO} {g : Nat × Bool} (h : o.guard = some g) : g.1 ∈ o.uses := List.mem_append_right _ (by rw [h]; simp)
theorem dl_box {v : TV} {s : Nat} (h : v.box ≠ some s) : v.dl s = v := by
  cases v <;> simp only [TV.dl] <;> try rfl
  · rename_i s' o; rw [if_neg (fun e => h (by rw [e]; rfl))]
  · rename_i s' a b c; rw [if_neg (fun e => h (by rw [e]; rfl))]
theorem dl_no {v : TV} {s : Nat} (h : v.dl s ≠ .no) : v.dl s = v := by
  cases v <;> simp only [TV.dl] at h ⊢ <;> try rfl
  · split
    · rename_i e; rw [if_pos e] at h; exact absurd rfl h
    · rfl
  · split
    · rename_i e; rw [if_pos e] at h; exact absurd rfl h
    · rfl
theorem dl_loc (s s' o : Nat) : (TV.loc s' o).dl s = if s' = s then .no else .loc s' o := rfl
theorem dl_lsl (s s' a b c : Nat) : (TV.lsl s' a b c).dl s = if s' = s then .no else .lsl s' a b c := rfl
theorem dl_comm (v : TV) (s u : Nat) : (v.dl s).dl u = (v.dl u).dl s := by
  cases v with
  | loc s' o =>
    rw [dl_loc, dl_loc]
    by_cases h1 : s' = s <;> by_cases h2 : s' = u
    · rw [if_pos h1, if_pos h2]; rfl
    · rw [if_pos h1, if_neg h2, dl_loc, if_pos h1]; rfl
    · rw [if_neg h1, if_pos h2, dl_loc, if_pos h2]; rfl
    · rw [if_neg h1, if_neg h2, dl_loc, dl_loc, if_neg h1, if_neg h2]
  | lsl s' a b c =>
    rw [dl_lsl, dl_lsl]
    by_cases h1 : s' = s <;> by_cases h2 : s' = u
    · rw [if_pos h1, if_pos h2]; rfl
    · rw [if_pos h1, if_neg h2, dl_lsl, if_pos h1]; rfl
    · rw [if_neg h1, if_pos h2, dl_lsl, if_pos h2]; rfl
    · rw [if_neg h1, if_neg h2, dl_lsl, dl_lsl, if_neg h1, if_neg h2]
  | _ => rfl
theorem kept_same {st st' : St} (h : KS st st') {id : Nat} (h1 : id < st'.low) (h2 : id < st.heap.length) : SameO (st.heap[id]?) (st'.heap[id]?) := by
  rcases h.kept id h1 h2 with e | ⟨v, gr, cs, e1, e2⟩
  · exact .inl e
  · exact .inr ⟨v, gr, cs, .inl ⟨e1, e2⟩⟩
theorem SameO.symm {o o' : Option AObj} (h : SameO o o') : SameO o' o := by
  rcases h with h | ⟨v, gr, cs, h | h⟩
  · exact .inl h.symm
  · exact .inr ⟨v, gr, cs, .inr ⟨h.1, h.2⟩⟩
  · exact .inr ⟨v, gr, cs, .inl ⟨h.1, h.2⟩⟩
theorem swap (hi : KSI inv) {a b : AO} {fr fra frb : Fr} {st sta stb : St} (hda : okDst a = true) (hdb : okDst b = true) (ha : stepO E inv a fr (nrm st) = some (fra, sta)) (hb : stepO E inv b fra (nrm sta) = some (frb, stb))
    (hp : pairOk a b (trOf a fr.ts (nrm st) sta) (trOf b fra.ts (nrm sta) stb) = true) :
    ∃ frb' stb' fra' sta', stepO E inv b fr (nrm st) = some (frb', stb') ∧ stepO E inv a frb' (nrm stb') = some (fra', sta') ∧ FrEq frb fra' ∧ trOf b fr.ts (nrm st) stb' = trOf b fra.ts (nrm sta) stb ∧ trOf a frb'.ts (nrm stb') sta' = trOf a fr.ts (nrm st) sta ∧
      ({ stb with low := min (min st.low sta.low) stb.low } : St) = { sta' with low := min (min st.low stb'.low) sta'.low } := by
  have ka := stepO_KS hi ha
  have kb := stepO_KS hi hb
  obtain ⟨δa, tva, na, La⟩ := stepO_local hda ha
  obtain ⟨δb, tvb, nb, Lb⟩ := stepO_local hdb hb
  generalize trOf a fr.ts (nrm st) sta = ta at *
  generalize trOf b fra.ts (nrm sta) stb = tb at *
  obtain ⟨p1, p2, p3, p4, p5⟩ := pairOk_spec hp
  have hnra : ta.eff = none → nrm sta = nrm st := fun e => by rw [La.pure e]; rfl
  -- the second, first
  have hlookb : ∀ t, t ∈ b.uses → (∀ v, lookT t fra.ts = some v → v ≠ .no) → lookT t fr.ts = lookT t fra.ts := by
    intro t ht hno
    have hne : a.dst ≠ some t := fun e => (p1 t e).1 ht
    rw [La.ts] at hno ⊢
    rw [lookT_putD, if_neg hne, lookT_rlN] at hno ⊢
    cases e : lookT t fr.ts with
    | none => rfl
    | some v =>
      simp only [Option.map_some]
      cases hna : na with
      | none => rfl
      | some s =>
        have := hno (v.dl s) (by rw [e, hna]; rfl)
        simp only [dlN]
        rw [dl_no this]
  have hbb : stepO E inv b fr (nrm st) = some ({ ts := putD b.dst tvb (rlN nb fr.ts), bs := δb ++ fr.bs }, if tb.eff.isSome then stb else nrm st) ∧ trOf b fr.ts (nrm st) (if tb.eff.isSome then stb else nrm st) = tb := by
    refine Lb.again fr (nrm st) (fun hw t ht => hlookb t (uses_op ht) (fun v hv e => Lb.no hw t ht (by rw [hv, e]))) (fun g hg => hlookb g.1 (uses_gd hg) (fun v hv => ?_)) (fun s hs => ?_) (fun id hid => ?_) (fun he => ?_)
    · obtain ⟨u, h1, _, h3⟩ := Lb.gd g hg
      rw [hv] at h1; cases h1; exact h3
    · have hne := hits_slot (p4 _ hs)
      rw [La.bs, lookB_app]
      cases e : lookB s δa with
      | none => rfl
      | some x =>
        obtain ⟨p, hp1, hp2⟩ := lookB_key e
        exact absurd (hp2 ▸ La.db p hp1) hne
    · cases he : ta.eff with
      | none => rw [hnra he]; exact .inl rfl
      | some i =>
        have h4 := p4 _ hid
        simp only [hits, he, decide_eq_false_iff_not] at h4
        have h5 := La.eff (by rw [he]; rfl)
        rw [he] at h5
        simp only [Option.some.injEq] at h5
        have hm : i = min sta.low st.heap.length := h5
        exact (kept_same ka (by omega) (by simp only [nrm]; omega)).symm
    · cases he2 : ta.eff with
      | none => exact (hnra he2).symm
      | some i => exact (p3 (by rw [he2]; rfl) he).elim
  obtain ⟨hb1, hb2⟩ := hbb
  -- then the first
  have hlooka : ∀ t, t ∈ a.uses → (∀ v s, lookT t fr.ts = some v → v.box = some s → nb = some s → False) → lookT t (putD b.dst tvb (rlN nb fr.ts)) = lookT t fr.ts := by
    intro t ht hno
    have hne : b.dst ≠ some t := fun e => p2 t e ht
    rw [lookT_putD, if_neg hne, lookT_rlN]
    cases e : lookT t fr.ts with
    | none => rfl
    | some v =>
      simp only [Option.map_some]
      cases hnb : nb with
      | none => rfl
      | some s =>
        simp only [dlN]
        rw [dl_box (fun hs => hno v s e hs hnb)]
  have hbs : ∀ s, nb = some s → Mem.slot s ∈ ta.acc → False := fun s h1 h2 => hits_slot (p5 _ h2) (Lb.nle s h1).2
  have haa : stepO E inv a { ts := putD b.dst tvb (rlN nb fr.ts), bs := δb ++ fr.bs } (nrm (if tb.eff.isSome then stb else nrm st)) = some ({ ts := putD a.dst tva (rlN na (putD b.dst tvb (rlN nb fr.ts))), bs := δa ++ (δb ++ fr.bs) }, if ta.eff.isSome then sta else nrm (if tb.eff.isSome then stb else nrm st)) ∧
      trOf a (putD b.dst tvb (rlN nb fr.ts)) (nrm (if tb.eff.isSome then stb else nrm st)) (if ta.eff.isSome then sta else nrm (if tb.eff.isSome then stb else nrm st)) = ta := by
    refine La.again { ts := putD b.dst tvb (rlN nb fr.ts), bs := δb ++ fr.bs } _ (fun hw t ht => hlooka t (uses_op ht) (fun v s h1 h2 h3 => hbs s h3 (La.ac hw t ht v s h1 h2))) (fun g hg => hlooka g.1 (uses_gd hg) (fun v s h1 h2 _ => ?_)) (fun s hs => ?_) (fun id hid => ?_) (fun he => ?_)
    · obtain ⟨u, k1, k2, _⟩ := La.gd g hg
      rw [h1] at k1; cases k1; rw [k2] at h2; cases h2
    · have hne := hits_slot (p5 _ hs)
      simp only [lookB_app]
      cases e : lookB s δb with
      | none => rfl
      | some x =>
        obtain ⟨p, hp1, hp2⟩ := lookB_key e
        exact absurd (hp2 ▸ Lb.db p hp1) hne
    · cases he : tb.eff with
      | none => exact .inl rfl
      | some i =>
        have h5 := p5 _ hid
        simp only [hits, he, decide_eq_false_iff_not] at h5
        have h6 := Lb.eff (by rw [he]; rfl)
        rw [he] at h6
        have hta : ta.eff = none := by
          cases he2 : ta.eff with
          | none => rfl
          | some j => exact (p3 (by rw [he2]; rfl) (by rw [he]; rfl)).elim
        simp only [Option.some.injEq] at h6
        have hm : i = min stb.low sta.heap.length := h6
        have hn := hnra hta
        simp only [Option.isSome_some, if_true]
        have := kept_same kb (id := id) (by omega) (by simp only [nrm]; omega)
        rw [hn] at this
        exact this
    · cases he2 : tb.eff with
      | none => rfl
      | some i => exact (p3 he (by rw [he2]; rfl)).elim
  obtain ⟨ha1, ha2⟩ := haa
  refine ⟨_, _, _, _, hb1, ha1, ?_, hb2, ha2, ?_⟩
  · -- the frames
    have hab : ∀ s, na = some s → nb = some s → False := fun s h1 h2 => (p1 s (La.nle s h1).1).2 (Lb.nle s h2).1
    have htva : ∀ s, nb = some s → tva.box ≠ some s := fun s h1 h2 => (La.tb s h2).elim (fun h3 => hab s h3 h1) (fun h3 => hbs s h1 h3)
    have htvb : ∀ s, na = some s → tvb.box ≠ some s := fun s h1 h2 => (Lb.tb s h2).elim (fun h3 => hab s h1 h3) (fun h3 => hits_slot (p4 _ h3) (La.nle s h1).2)
    have hdlva : dlN nb tva = tva := by
      cases h : nb with
      | none => rfl
      | some s => exact dl_box (htva s h)
    have hdlvb : dlN na tvb = tvb := by
      cases h : na with
      | none => rfl
      | some s => exact dl_box (htvb s h)
    refine ⟨fun t => ?_, fun s => ?_⟩
    · rw [Lb.ts, La.ts]
      simp only [lookT_putD, lookT_rlN]
      by_cases h1 : b.dst = some t
      · have h2 : a.dst ≠ some t := fun h2 => (p1 t h2).2 h1
        rw [if_pos h1, if_neg h2, if_pos h1]
        simp only [Option.map_some, hdlvb]
      · rw [if_neg h1]
        by_cases h2 : a.dst = some t
        · rw [if_pos h2, if_pos h2]
          simp only [Option.map_some, hdlva]
        · rw [if_neg h2, if_neg h2, if_neg h1]
          cases lookT t fr.ts with
          | none => rfl
          | some v =>
            simp only [Option.map_some]
            cases na <;> cases nb <;> simp only [dlN]
            rw [dl_comm]
    · rw [Lb.bs, La.bs]
      simp only [lookB_app]
      cases e1 : lookB s δb with
      | none => cases lookB s δa <;> rfl
      | some x =>
        cases e2 : lookB s δa with
        | none => rfl
        | some y =>
          exfalso
          obtain ⟨q1, hq1, hq2⟩ := lookB_key e1
          obtain ⟨r1, hr1, hr2⟩ := lookB_key e2
          have hbx := Lb.db q1 hq1
          have hax := La.db r1 hr1
          rw [hq2] at hbx
          rw [hr2] at hax
          rcases La.bx s hax with h1 | h1
          · rcases Lb.bx s hbx with h2 | h2
            · exact hab s h1 h2
            · exact hits_slot (p4 _ h2) hax
          · exact hits_slot (p5 _ h1) hbx
  · -- the heap
    have la := ka.low
    have lb := kb.low
    have na1 := ka.len
    have nb1 := kb.len
    simp only [nrm] at la lb na1 nb1
    cases h1 : ta.eff with
    | none =>
      have e1 := La.pure h1
      cases h2 : tb.eff with
      | none =>
        have e2 := Lb.pure h2
        subst e1
        subst e2
        rfl
      | some i =>
        subst e1
        simp only [Option.isSome_some, if_true, Option.isSome_none, Bool.false_eq_true, if_false, nrm] at lb nb1 ⊢
        congr 1
        omega
    | some j =>
      cases h2 : tb.eff with
      | none =>
        have e2 := Lb.pure h2
        subst e2
        simp only [Option.isSome_some, if_true, Option.isSome_none, Bool.false_eq_true, if_false, nrm]
        congr 1
        omega
      | some i => exact (p3 (by rw [h1]; rfl) (by rw [h2]; rfl)).elim
end
end Go.Proofs.AM

namespace Go.Proofs.AM
open Go

/-! ### What comes before what -/
theorem foldl_bits {acc : List Nat} {b : Nat} : ∀ (l : List Nat) (m : Nat), (l.foldl (fun m j => m ||| 2 ^ j ||| acc.getD j 0) m).testBit b = true → m.testBit b = true ∨ ∃ k ∈ l, b = k ∨ (acc.getD k 0).testBit b = true
  | [], m, h => .inl h
  | j :: l, m, h => by
    simp only [List.foldl_cons] at h
    rcases foldl_bits l _ h with h | ⟨k, hk, h⟩
    · rw [Nat.testBit_or, Nat.testBit_or, Bool.or_eq_true, Bool.or_eq_true] at h
      rcases h with (h | h) | h
      · exact .inl h
      · rw [Nat.testBit_two_pow] at h
        have hjb : j = b := by simpa using h
        exact .inr ⟨j, by simp, .inl hjb.symm⟩
      · exact .inr ⟨j, by simp, .inr h⟩
    · exact .inr ⟨k, by simp [hk], h⟩
theorem getD_left {α : Type} {a b : List α} {i : Nat} {d : α} (h : i < a.length) : (a ++ b).getD i d = a.getD i d := by
  rw [List.getD_eq_getElem?_getD, List.getElem?_append_left h, ← List.getD_eq_getElem?_getD]
theorem getD_right {α : Type} {a b : List α} {i : Nat} {d : α} (h : a.length ≤ i) : (a ++ b).getD i d = b.getD (i - a.length) d := by
  rw [List.getD_eq_getElem?_getD, List.getElem?_append_right h, ← List.getD_eq_getElem?_getD]
theorem befores_go : ∀ (rest done : List (List Nat)) (acc : List Nat), acc.length = done.length → (∀ i, i < done.length → ∀ j, (acc.getD i 0).testBit j = true → ∃ k ∈ done.getD i [], j = k ∨ (k < i ∧ (acc.getD k 0).testBit j = true)) →
    ∀ i, i < (done ++ rest).length → ∀ j, ((rest.foldl (fun acc l => acc ++ [l.foldl (fun m j => m ||| 2 ^ j ||| acc.getD j 0) 0]) acc).getD i 0).testBit j = true →
      ∃ k ∈ (done ++ rest).getD i [], j = k ∨ (k < i ∧ ((rest.foldl (fun acc l => acc ++ [l.foldl (fun m j => m ||| 2 ^ j ||| acc.getD j 0) 0]) acc).getD k 0).testBit j = true)
  | [], done, acc, hl, hp, i, hi, j, h => by
    simp only [List.append_nil, List.foldl_nil] at hi h ⊢
    exact hp i hi j h
  | l :: rest, done, acc, hl, hp, i, hi, j, h => by
    simp only [List.foldl_cons] at h ⊢
    have e : done ++ l :: rest = (done ++ [l]) ++ rest := by simp
    rw [e] at hi ⊢
    refine befores_go rest (done ++ [l]) _ (by simp [hl]) (fun i hi j h => ?_) i hi j h
    simp only [List.length_append, List.length_cons, List.length_nil] at hi
    by_cases hlt : i < done.length
    · rw [getD_left (by omega)] at h
      obtain ⟨k, hk, h⟩ := hp i hlt j h
      refine ⟨k, by rw [getD_left hlt]; exact hk, ?_⟩
      rcases h with h | ⟨h1, h2⟩
      · exact .inl h
      · exact .inr ⟨h1, by rw [getD_left (by omega)]; exact h2⟩
    · have hi' : i = done.length := by omega
      subst hi'
      have e1 : (acc ++ [l.foldl (fun m j => m ||| 2 ^ j ||| acc.getD j 0) 0]).getD done.length 0 = l.foldl (fun m j => m ||| 2 ^ j ||| acc.getD j 0) 0 := by
        rw [getD_right (by omega)]
        simp [hl]
      rw [e1] at h
      have e2 : (done ++ [l]).getD done.length [] = l := by
        rw [getD_right (by omega)]
        simp
      rw [e2]
      rcases foldl_bits l 0 h with h | ⟨k, hk, h⟩
      · simp at h
      · refine ⟨k, hk, ?_⟩
        rcases h with h | h
        · exact .inl h
        · have hkl : k < acc.length := by
            rcases Nat.lt_or_ge k acc.length with h' | h'
            · exact h'
            · rw [List.getD_eq_getElem?_getD, List.getElem?_eq_none h'] at h; simp at h
          exact .inr ⟨by omega, by rw [getD_left hkl]; exact h⟩
theorem befores_spec {af : List (List Nat)} {i j : Nat} (h : ordB (befores af) j i = true) (hi : i < af.length) : ∃ k ∈ af.getD i [], j = k ∨ (k < i ∧ ordB (befores af) j k = true) := by
  have := befores_go af [] [] rfl (by simp) i (by simpa using hi) j h
  simpa [befores, ordB] using this

section
variable {E : Env} {inv : Inv}
theorem opsT_len : ∀ {os : List AO} {fr fr' : Fr} {st st' : St} {l : List Tr}, opsT E inv os fr st = some (l, fr', st') → l.length = os.length
  | [], _, _, _, _, _, h => by simp only [opsT, Option.some.injEq, Prod.mk.injEq] at h; obtain ⟨rfl, _⟩ := h; rfl
  | o :: os, fr, fr', st, st', l, h => by
    simp only [opsT] at h
    split at h
    · split at h
      · rename_i e
        simp at h
        rw [← h.1]
        simp [opsT_len e]
      · cases h
    · cases h
/-- An operation that nothing before it bars comes first. -/
theorem bubble (hi : KSI inv) {x : AO} {post : List AO} {tx : Tr} {tq : List Tr} (hdx : okDst x = true) (hdq : post.all okDst = true) : ∀ {pre : List AO} {tp : List Tr} {fr frF : Fr} {st stF : St}, pre.all okDst = true → tp.length = pre.length → (∀ j (h : j < pre.length) (h' : j < tp.length), pairOk (pre[j]'h) x (tp[j]'h') tx = true) →
    opsT E inv (pre ++ x :: post) fr st = some (tp ++ tx :: tq, frF, stF) → ∃ fr1 st1 frF', stepO E inv x fr (nrm st) = some (fr1, st1) ∧ trOf x fr.ts (nrm st) st1 = tx ∧ opsT E inv (pre ++ post) fr1 { st1 with low := min st.low st1.low } = some (tp ++ tq, frF', stF) ∧ FrEq frF frF'
  | [], [], fr, frF, st, stF, _, _, _, h => by
    simp only [List.nil_append, opsT] at h
    split at h
    · rename_i fr1 st1 e
      split at h
      · rename_i l1 fr2 st2 e2
        simp only [Option.some.injEq, Prod.mk.injEq, List.cons.injEq] at h
        obtain ⟨⟨rfl, rfl⟩, rfl, rfl⟩ := h
        exact ⟨fr1, st1, fr2, e, rfl, e2, FrEq.refl _⟩
      · cases h
    · cases h
  | [], _ :: _, _, _, _, _, _, hl, _, _ => by simp at hl
  | _ :: _, [], _, _, _, _, _, hl, _, _ => by simp at hl
  | p :: pre, tp0 :: tp, fr, frF, st, stF, hd, hl, hp, h => by
    simp only [List.all_cons, Bool.and_eq_true] at hd
    simp only [List.cons_append, opsT] at h
    split at h
    · rename_i frp stp ep
      split at h
      · rename_i l1 fr2 st2 e2
        simp only [Option.some.injEq, Prod.mk.injEq, List.cons.injEq] at h
        obtain ⟨⟨h0, rfl⟩, rfl, rfl⟩ := h
        obtain ⟨frx, stx, frF1, k1, k2, k3, k4⟩ := bubble hi hdx hdq hd.2 (by simpa using hl) (fun j h h' => hp (j + 1) (by simpa using h) (by simpa using h')) e2
        have k1' : stepO E inv x frp (nrm stp) = some (frx, stx) := k1
        have k2' : trOf x frp.ts (nrm stp) stx = tx := k2
        have h0' : trOf p fr.ts (nrm st) stp = tp0 := h0
        have hpx : pairOk p x tp0 tx = true := hp 0 (Nat.succ_pos _) (Nat.succ_pos _)
        obtain ⟨frb, stb, fra, sta, s1, s2, s3, s4, s5, s6⟩ := swap hi hd.1 hdx ep k1' (by rw [h0', k2']; exact hpx)
        have k3' : opsT E inv (pre ++ post) frx { sta with low := min (min st.low stb.low) sta.low } = some (tp ++ tq, frF1, st2) := by rw [← s6]; exact k3
        obtain ⟨frF2, c1, c2⟩ := opsT_congr (by simp [hd.2, hdq]) k3' s3
        refine ⟨frb, stb, frF2, s1, by rw [s4, k2'], ?_, k4.trans c2⟩
        simp only [List.cons_append, opsT]
        have s2' : stepO E inv p frb { stb with low := stb.heap.length } = some (fra, sta) := s2
        rw [s2']
        simp only [c1]
        have s5' : trOf p frb.ts { stb with low := stb.heap.length } sta = tp0 := by
          have : trOf p frb.ts (nrm stb) sta = tp0 := by rw [s5, h0']
          exact this
        rw [s5']
      · cases h
    · cases h
end

section
variable {P : Program} {E : Env} {inv : Inv} {c0 : Cf} {st0 : St} {w0 : World} {mk : List Nat} {F : Fence} {n : Nat}
theorem Kd.frEq {nt : Nat} {ds : List Deferred} {fr fr' : Fr} {st : St} {a : Act} {w : World} (h : Kd P E c0 st0 w0 mk nt ds fr st a w) (he : FrEq fr' fr) : Kd P E c0 st0 w0 mk nt ds fr' st a w := by
  obtain ⟨c, lam, hs, hts, hn, hds⟩ := h
  exact ⟨c, lam, hs.less (fun s cs e => by rw [← he.2]; exact e), hts.less (fun t v e => by rw [← he.1]; exact e), hn, hds⟩
theorem Kd.reLow {nt : Nat} {ds : List Deferred} {fr : Fr} {st : St} {l : Nat} {a : Act} {w : World} (h : Kd P E c0 st0 w0 mk nt ds fr st a w) : Kd P E c0 st0 w0 mk nt ds fr { st with low := l } a w := by
  obtain ⟨c, lam, hs, hts, hn, hds⟩ := h
  refine ⟨c, lam, ?_, hts, hn, hds⟩
  exact { hr := ⟨hs.hr.dom, hs.hr.lt, hs.hr.obj, hs.hr.inj, hs.hr.fzo, hs.hr.fzl, hs.hr.glob, hs.hr.fut, hs.hr.tot⟩, gd := ⟨hs.gd.le, hs.gd.frame, hs.gd.fz, hs.gd.own, hs.gd.size, hs.gd.os, hs.gd.tape, hs.gd.output⟩, bx := hs.bx, bd := hs.bd, md := hs.md }
theorem Kd.drew {nt : Nat} {ds : List Deferred} {fr : Fr} {st : St} {a : Act} {w : World} (h : Kd P E c0 st0 w0 mk nt ds fr st a w) : Kd P E c0 st0 w0 mk nt ds fr st a { w with drawn := w.drawn + 1 } := by
  obtain ⟨c, lam, hs, hts, hn, hds⟩ := h
  have hle := Cf.le_refl c
  have hw : ∀ b, c.fz b → ({ w with drawn := w.drawn + 1 } : World).heap[b]? = w.heap[b]? := fun _ _ => rfl
  refine ⟨c, lam, hs.next ⟨hle, fun _ _ _ _ => rfl, fun b h => .inl h, fun b h => .inl h, Nat.le_refl _, rfl, rfl, rfl⟩ (fun _ _ _ => rfl) (fun _ _ => rfl) ?_, hts.mono hle hw, hn, hds⟩
  exact ⟨hs.hr.dom, hs.hr.lt, fun id v b k e => (hs.hr.obj id v b k e).mono hle hw (fun _ => rfl), hs.hr.inj, hs.hr.fzo, hs.hr.fzl, fun g cs e => ⟨(hs.hr.glob g cs e).1, (hs.hr.glob g cs e).2.mono hle hw rfl⟩, hs.hr.fut, hs.hr.tot⟩

/-- What is known of a region. -/
structure RegOk (P : Program) (nt : Nat) (ops : Array Oper) (os : List AO) (af : List (List Nat)) : Prop where
  len : os.length = ops.size
  alen : af.length = ops.size
  ok : ∀ (i : Nat) (o : AO) (x : Oper), os[i]? = some o → ops[i]? = some x → okO P nt ops o x = true
  dst : os.all okDst = true
  edge : ∀ (i : Nat) (x : Oper), ops[i]? = some x → (∀ k ∈ af.getD i [], ∃ e ∈ x.after, e.on = k ∧ Region.binds .any e = true) ∧ ∀ e ∈ x.after, Region.binds .any e = true → e.on < i
theorem anyA_ok (hF : Fw F) (hinv : SimInv P E inv) (hks : KSI inv) {nt : Nat} {ds : List Deferred} {ops : Array Oper} {os : List AO} {af : List (List Nat)} (hreg : RegOk P nt ops os af) {Q : Exit → Act → World → Prop} {frF : Fr} {stF : St}
    (hQ : ∀ a' w', Kd P E c0 st0 w0 mk nt ds frF stF a' w' → Q .normal a' w') : ∀ (m : Nat) (R : List (Nat × AO)) (l : List Tr) (listed : Array Bool) (fr frX : Fr) (st : St) (a : Act) (w : World), R.length = m →
      (R.map (·.1)).Pairwise (· < ·) → (∀ p ∈ R, os[p.1]? = some p.2) → listed.size = ops.size → (∀ i, i < ops.size → listed[i]? = some (decide (i ∉ R.map (·.1)))) →
      (∀ p q (hp : p < R.length) (hq : q < R.length) (hp' : p < l.length) (hq' : q < l.length), p < q → ordB (befores af) (R[p]'hp).1 (R[q]'hq).1 = true ∨ pairOk (R[p]'hp).2 (R[q]'hq).2 (l[p]'hp') (l[q]'hq') = true) →
      (∀ i k, i < ops.size → i ∉ R.map (·.1) → ordB (befores af) k i = true → k ∉ R.map (·.1)) →
      Kd P E c0 st0 w0 mk nt ds fr st a w → opsT E inv (R.map (·.2)) fr st = some (l, frX, stF) → FrEq frF frX → wpAnyIn F n P .any ops Q m listed a w := by
  intro m
  induction m with
  | zero =>
    intro R l listed fr frX st a w hm hsort hos hsz hlist hpair hdown hk h he
    have hR : R = [] := List.eq_nil_of_length_eq_zero hm
    subst hR
    simp [opsT] at h
    obtain ⟨rfl, rfl, rfl⟩ := h
    refine ⟨?_, hQ a w (hk.frEq he)⟩
    apply List.eq_nil_iff_forall_not_mem.2
    intro i hi
    have h1 := (mem_ready.1 hi).1
    rcases Nat.lt_or_ge i ops.size with hlt | hge
    · have := hlist i hlt
      rw [Array.getD_eq_getD_getElem?, this] at h1
      simp at h1
    · rw [Array.getD_eq_getD_getElem?, Array.getElem?_eq_none (by omega)] at h1
      simp at h1
  | succ m ih =>
    intro R l listed fr frX st a w hm hsort hos hsz hlist hpair hdown hk h he
    have hlen := opsT_len h
    have hlt_of : ∀ p ∈ R, p.1 < ops.size := fun p hp => by
      have := (List.getElem?_eq_some_iff.1 (hos p hp)).1
      rw [hreg.len] at this; exact this
    refine ⟨fun hnil => ?_, fun i hi => ?_⟩
    · exfalso
      cases R with
      | nil => simp at hm
      | cons r R =>
        have hr := hlt_of r (by simp)
        have : r.1 ∈ Region.ready .any ops listed := by
          refine mem_ready.2 ⟨?_, ops[r.1], by simp [hr], fun e hme hb => ?_⟩
          · rw [Array.getD_eq_getD_getElem?, hlist r.1 hr]; simp
          · have hlt := (hreg.edge r.1 ops[r.1] (by simp [hr])).2 e hme hb
            rw [Array.getD_eq_getD_getElem?, hlist e.on (by omega)]
            simp only [Option.getD_some, decide_eq_true_eq]
            intro hmem
            simp only [List.map_cons, List.pairwise_cons] at hsort
            rcases List.mem_cons.1 hmem with h1 | h1
            · have h1 : e.on = r.1 := h1
              omega
            · have := hsort.1 _ h1; omega
        rw [hnil] at this
        cases this
    · obtain ⟨hun, oi, hoi, hall⟩ := mem_ready.1 hi
      have hilt : i < ops.size := (Array.getElem?_eq_some_iff.1 hoi).1
      have hiR : i ∈ R.map (·.1) := by
        have := hlist i hilt
        rw [Array.getD_eq_getD_getElem?, this] at hun
        simpa using hun
      obtain ⟨⟨i', o⟩, hmem, hi'⟩ := List.mem_map.1 hiR
      simp only at hi'
      subst hi'
      obtain ⟨pre, post, rfl⟩ := List.append_of_mem hmem
      -- what comes before it is done
      have hbef : ∀ k, ordB (befores af) k i' = true → k ∉ (pre ++ (i', o) :: post).map (·.1) := by
        intro k hok
        obtain ⟨k', hk', hcase⟩ := befores_spec hok (by rw [hreg.alen]; exact hilt)
        obtain ⟨e, he1, he2, he3⟩ := (hreg.edge i' oi hoi).1 k' hk'
        have hl := hall e he1 he3
        rw [he2] at hl
        have hk'lt : k' < ops.size := by have := (hreg.edge i' oi hoi).2 e he1 he3; omega
        have hk'R : k' ∉ (pre ++ (i', o) :: post).map (·.1) := by
          rw [Array.getD_eq_getD_getElem?, hlist k' hk'lt] at hl
          simpa using hl
        rcases hcase with rfl | ⟨_, h2⟩
        · exact hk'R
        · exact hdown k' k hk'lt hk'R h2
      -- the traces
      obtain ⟨tp, tx, tq, rfl, htp⟩ : ∃ tp tx tq, l = tp ++ tx :: tq ∧ tp.length = pre.length := by
        have hl : pre.length < l.length := by rw [hlen]; simp
        refine ⟨l.take pre.length, l[pre.length], l.drop (pre.length + 1), ?_, by simp; omega⟩
        rw [List.getElem_cons_drop, List.take_append_drop]
      have hpo : ∀ j (hj : j < (pre.map (·.2)).length) (hj' : j < tp.length), pairOk ((pre.map (·.2))[j]'hj) o (tp[j]'hj') tx = true := by
        intro j hj hj'
        have hj1 : j < pre.length := by simpa using hj
        have := hpair j pre.length (by simp; omega) (by simp) (by simp; omega) (by simp [htp]) hj1
        have e1 : (pre ++ (i', o) :: post)[j]'(by simp; omega) = pre[j] := List.getElem_append_left hj1
        have e2 : (pre ++ (i', o) :: post)[pre.length]'(by simp) = (i', o) := by simp
        have e3 : (tp ++ tx :: tq)[j]'(by simp; omega) = tp[j] := List.getElem_append_left hj'
        have e4 : (tp ++ tx :: tq)[pre.length]'(by simp [htp]) = tx := by simp [← htp]
        rw [e1, e2, e3, e4] at this
        rcases this with h1 | h1
        · exfalso
          refine hbef _ h1 ?_
          simp only [List.map_append, List.mem_append]
          exact .inl (List.mem_map.2 ⟨pre[j], List.getElem_mem _, rfl⟩)
        · simpa using h1
      have hall' : ∀ p ∈ pre ++ (i', o) :: post, okDst p.2 = true := fun p hp => (List.all_eq_true.1 hreg.dst) _ (List.mem_of_getElem? (hos p hp))
      simp only [List.map_append, List.map_cons] at h
      have hdo : okDst o = true := hall' (i', o) (by simp)
      have hdpre : (pre.map (·.2)).all okDst = true := List.all_eq_true.2 (fun q hq => by
        obtain ⟨p, hp, rfl⟩ := List.mem_map.1 hq
        exact hall' p (List.mem_append_left _ hp))
      have hdpost : (post.map (·.2)).all okDst = true := List.all_eq_true.2 (fun q hq => by
        obtain ⟨p, hp, rfl⟩ := List.mem_map.1 hq
        exact hall' p (List.mem_append_right _ (List.mem_cons_of_mem _ hp)))
      obtain ⟨fr1, st1, frF', b1, b2, b3, b4⟩ := bubble (E := E) (inv := inv) (pre := pre.map (·.2)) (post := post.map (·.2)) (x := o) hks hdo hdpost hdpre (by simpa using htp) hpo h
      have hoso : os[i']? = some o := hos (i', o) (by simp)
      refine stepO_ok hF hinv hoi (hreg.ok i' o oi hoso hoi) hdo (hk.reLow (l := st.heap.length)) b1 (fun a' w' hk' => ?_)
      -- the rest
      have hsort' : ((pre ++ post).map (·.1)).Pairwise (· < ·) := by
        refine List.Pairwise.sublist ?_ hsort
        exact List.Sublist.map _ (List.Sublist.append (List.Sublist.refl _) (List.sublist_cons_self _ _))
      have hnot : i' ∉ (pre ++ post).map (·.1) := by
        intro hmem'
        simp only [List.map_append, List.map_cons, List.pairwise_append, List.pairwise_cons, List.mem_append] at hsort hmem'
        rcases hmem' with h1 | h1
        · have := hsort.2.2 i' h1 i' (by simp); omega
        · have := hsort.2.1.1 i' h1; omega
      have hmemiff : ∀ k, k ∈ (pre ++ (i', o) :: post).map (·.1) ↔ k = i' ∨ k ∈ (pre ++ post).map (·.1) := by
        intro k
        simp only [List.map_append, List.map_cons, List.mem_append, List.mem_cons]
        constructor
        · rintro (h | h | h)
          · exact .inr (.inl h)
          · exact .inl h
          · exact .inr (.inr h)
        · rintro (h | h | h)
          · exact .inr (.inl h)
          · exact .inl h
          · exact .inr (.inr h)
      refine ih (pre ++ post) (tp ++ tq) (listed.setIfInBounds i' true) fr1 frF' _ a' w' (by simp at hm ⊢; omega) hsort' (fun p hp => hos p (by
        rcases List.mem_append.1 hp with h1 | h1
        · simp [h1]
        · simp [h1])) (by simp [hsz]) (fun j hj => ?_) ?_ (fun j k hj hjn hjk => ?_) (hk'.reLow) (by simpa using b3) (he.trans b4)
      · by_cases hji : j = i'
        · subst hji
          have : decide (j ∉ (pre ++ post).map (·.1)) = true := decide_eq_true hnot
          rw [this]
          simp [hsz, hj]
        · rw [Array.getElem?_setIfInBounds_ne (Ne.symm hji), hlist j hj]
          congr 1
          apply decide_eq_decide.2
          rw [hmemiff]
          simp [hji]
      · intro p q hp hq hp' hq' hpq
        have hq1 : q < pre.length + post.length := by simpa using hq
        have hq2 : q < tp.length + tq.length := by simpa using hq'
        -- where they stood
        have fR : ∀ p (hp : p < (pre ++ post).length), ∃ hp1 : (if p < pre.length then p else p + 1) < (pre ++ (i', o) :: post).length, (pre ++ (i', o) :: post)[if p < pre.length then p else p + 1]'hp1 = (pre ++ post)[p] := by
          intro p hp
          by_cases hlt : p < pre.length
          · refine ⟨by rw [if_pos hlt]; simp; omega, ?_⟩
            simp only [if_pos hlt]
            rw [List.getElem_append_left hlt, List.getElem_append_left hlt]
          · refine ⟨by rw [if_neg hlt]; simp at hp ⊢; omega, ?_⟩
            simp only [if_neg hlt]
            rw [List.getElem_append_right (by omega), List.getElem_append_right (by omega)]
            have : p + 1 - pre.length = (p - pre.length) + 1 := by omega
            simp only [this, List.getElem_cons_succ]
        have fT : ∀ p (hp : p < (tp ++ tq).length), ∃ hp1 : (if p < pre.length then p else p + 1) < (tp ++ tx :: tq).length, (tp ++ tx :: tq)[if p < pre.length then p else p + 1]'hp1 = (tp ++ tq)[p] := by
          intro p hp
          rw [← htp]
          by_cases hlt : p < tp.length
          · refine ⟨by rw [if_pos hlt]; simp; omega, ?_⟩
            simp only [if_pos hlt]
            rw [List.getElem_append_left hlt, List.getElem_append_left hlt]
          · refine ⟨by rw [if_neg hlt]; simp at hp ⊢; omega, ?_⟩
            simp only [if_neg hlt]
            rw [List.getElem_append_right (by omega), List.getElem_append_right (by omega)]
            have : p + 1 - tp.length = (p - tp.length) + 1 := by omega
            simp only [this, List.getElem_cons_succ]
        obtain ⟨r1, r2⟩ := fR p hp
        obtain ⟨r3, r4⟩ := fR q hq
        obtain ⟨t1, t2⟩ := fT p hp'
        obtain ⟨t3, t4⟩ := fT q hq'
        have := hpair _ _ r1 r3 t1 t3 (by split <;> split <;> omega)
        rw [r2, r4, t2, t4] at this
        exact this
      · intro hmem'
        have hjR : j = i' ∨ j ∉ (pre ++ (i', o) :: post).map (·.1) := by
          by_cases hji : j = i'
          · exact .inl hji
          · exact .inr (fun h1 => by rcases (hmemiff j).1 h1 with h2 | h2; exact hji h2; exact hjn h2)
        rcases hjR with rfl | hjR
        · exact hbef k hjk ((hmemiff k).2 (.inr hmem'))
        · exact hdown j k hj hjR hjk ((hmemiff k).2 (.inr hmem'))
end
end Go.Proofs.AM
