/-
  Comparisons of structs and arrays, cell by cell.
-/
import Derived.Test.YtkifeiienlkmcaaDoorAmC
import Derived.ChangeKeysEq
set_option linter.all false
namespace Go.Proofs.AM
open Go

section
variable {P : Program} {c : Cf} {w : World}

theorem eqL_nil {as bs : List AV} {r : Bool} (h : eqL [] as bs = some r) : as = [] ∧ bs = [] ∧ r = true := by
  rcases as with _ | ⟨a, as⟩ <;> rcases bs with _ | ⟨b, bs⟩ <;> simp [eqL] at h
  exact ⟨rfl, rfl, h⟩
theorem eqL_t {sg : List Bool} {as bs : List AV} {r : Bool} (h : eqL (true :: sg) as bs = some r) : ∃ p q as' bs' s, as = .bool p :: as' ∧ bs = .bool q :: bs' ∧ eqL sg as' bs' = some s ∧ r = ((p == q) && s) := by
  rcases as with _ | ⟨a, as⟩
  · simp [eqL] at h
  rcases bs with _ | ⟨b, bs⟩
  · simp [eqL] at h
  cases a <;> first | (simp [eqL] at h; done) | skip
  cases b <;> first | (simp [eqL] at h; done) | skip
  rename_i p q
  simp only [eqL] at h
  split at h
  · rename_i s e; simp at h; exact ⟨p, q, as, bs, s, rfl, rfl, e, h.symm⟩
  · cases h
theorem eqL_f {sg : List Bool} {as bs : List AV} {r : Bool} (h : eqL (false :: sg) as bs = some r) : ∃ k p q as' bs' s, as = .int k p :: as' ∧ bs = .int k q :: bs' ∧ eqL sg as' bs' = some s ∧ r = ((p == q) && s) := by
  rcases as with _ | ⟨a, as⟩
  · simp [eqL] at h
  rcases bs with _ | ⟨b, bs⟩
  · simp [eqL] at h
  cases a <;> first | (simp [eqL] at h; done) | skip
  cases b <;> first | (simp [eqL] at h; done) | skip
  rename_i k p j q
  simp only [eqL] at h
  split at h
  · rename_i hk
    subst hk
    split at h
    · rename_i s e; simp at h; exact ⟨k, p, q, as, bs, s, rfl, rfl, e, h.symm⟩
    · cases h
  · cases h
theorem eqL_len : ∀ {sg : List Bool} {as bs : List AV} {r : Bool}, eqL sg as bs = some r → as.length = sg.length ∧ bs.length = sg.length
  | [], _, _, _, h => by obtain ⟨rfl, rfl, _⟩ := eqL_nil h; simp
  | true :: sg, _, _, _, h => by
    obtain ⟨p, q, as', bs', s, rfl, rfl, e, _⟩ := eqL_t h
    obtain ⟨h1, h2⟩ := eqL_len e
    simp [h1, h2]
  | false :: sg, _, _, _, h => by
    obtain ⟨k, p, q, as', bs', s, rfl, rfl, e, _⟩ := eqL_f h
    obtain ⟨h1, h2⟩ := eqL_len e
    simp [h1, h2]
theorem eqL_split : ∀ {s1 : List Bool} {s2 : List Bool} {as bs : List AV} {r : Bool}, eqL (s1 ++ s2) as bs = some r →
    ∃ r1 r2, eqL s1 (as.take s1.length) (bs.take s1.length) = some r1 ∧ eqL s2 (as.drop s1.length) (bs.drop s1.length) = some r2 ∧ r = (r1 && r2)
  | [], _, _, _, r, h => ⟨true, r, by simp [eqL], by simpa using h, by simp⟩
  | true :: s1, s2, _, _, _, h => by
    obtain ⟨p, q, as', bs', s, rfl, rfl, e, rfl⟩ := eqL_t h
    obtain ⟨r1, r2, h1, h2, rfl⟩ := eqL_split e
    exact ⟨(p == q) && r1, r2, by simp [eqL, h1], by simpa using h2, by simp [Bool.and_assoc]⟩
  | false :: s1, s2, _, _, _, h => by
    obtain ⟨k, p, q, as', bs', s, rfl, rfl, e, rfl⟩ := eqL_f h
    obtain ⟨r1, r2, h1, h2, rfl⟩ := eqL_split e
    exact ⟨(p == q) && r1, r2, by simp [eqL, h1], by simpa using h2, by simp [Bool.and_assoc]⟩

/-- A value of a type, by its cells. -/
def Pk (P : Program) (t : TypeId) (vs : List Value) (x : Value) : Prop :=
  match P.underlying t with
  | some (.struct _) | some (.array ..) => x = .agg vs.toArray
  | _ => vs = [x]
theorem take1_drop {α : Type} (l : List α) (n : Nat) (h : n < l.length) : (l.drop n).take 1 = [l[n]] := by
  rw [List.drop_eq_getElem_cons h]; rfl
theorem run_part_Pk {t : TypeId} {n : Nat} (hi : sizeIs P t n = true) (hu : (P.underlying t).isSome = true) {vs : List Value} {off : Nat} (h1 : (match P.underlying t with | some (.struct _) | some (.array ..) => True | _ => n = 1)) (hlen : off + n ≤ vs.length ∨ n = 0) (w : World) :
    ∃ x, (part t vs.toArray off).run P w = .ok x w ∧ Pk P t ((vs.drop off).take n) x := by
  have hz := run_sizeOf hi w
  unfold Pk
  cases e : P.underlying t with
  | none => rw [e] at hu; cases hu
  | some d =>
    rw [e] at h1
    cases d
    case struct fs => exact ⟨_, by simp [part, isAgg, run_underlying e, hz], rfl⟩
    case array n e' => exact ⟨_, by simp [part, isAgg, run_underlying e, hz], rfl⟩
    all_goals
      have hz : n = 1 := h1
      have hlt : off < vs.length := by omega
      exact ⟨vs[off], by simp [part, isAgg, run_underlying e, List.getElem?_eq_getElem hlt], by rw [hz]; exact take1_drop _ _ hlt⟩
theorem flatT_one {d : Nat} {t : TypeId} {sg : List Bool} (h : flatT P d t = some sg) : (P.underlying t).isSome = true ∧ sizeIs P t sg.length = true ∧ (match P.underlying t with | some (.struct _) | some (.array ..) => True | _ => sg.length = 1) := by
  cases d with
  | zero => simp [flatT] at h
  | succ d =>
    unfold flatT at h
    cases e : P.underlying t with
    | none => rw [e] at h; cases h
    | some k =>
      rw [e] at h
      refine ⟨rfl, ?_⟩
      cases k
      case bool => simp only at h; split at h <;> simp at h; subst h; exact ⟨by assumption, rfl⟩
      case int q => simp only at h; split at h <;> simp at h; subst h; exact ⟨by assumption, rfl⟩
      case struct fs =>
        simp only at h
        split at h
        · cases h
        · split at h
          · split at h <;> simp at h; subst h; exact ⟨by assumption, trivial⟩
          · cases h
      case array n e' =>
        simp only at h
        split at h
        · split at h
          · rename_i l _ hs
            simp at h; subst h
            exact ⟨by rw [show ((List.replicate n l).flatten).length = n * l.length from by simp [List.length_flatten]]; exact hs, trivial⟩
          · cases h
        · cases h
      all_goals cases h

theorem run_eqFields_flat {n d : Nat} (ih : ∀ t sg, flatT P d t = some sg → ∀ cs ds vs us r, CL c w cs vs → CL c w ds us → eqL sg cs ds = some r → ∀ x y, Pk P t vs x → Pk P t us y → (Op.equalIn n t x y).run P w = .ok r w)
    {cs ds : List AV} {vs us : List Value} (hv : CL c w cs vs) (hu : CL c w ds us) : ∀ (fs : List Field) (o : Nat) (sg : List Bool) (r : Bool), flatFs P (flatT P d) o fs = some sg → eqL sg (cs.drop o) (ds.drop o) = some r →
      (Op.eqFields n vs.toArray us.toArray fs).run P w = .ok r w
  | [], o, sg, r, hf, he => by
    simp [flatFs] at hf; subst hf
    have : r = true := by
      revert he
      cases cs.drop o <;> cases ds.drop o <;> simp [eqL]
    subst this
    simp [Op.eqFields]
  | f :: fs, o, sg, r, hf, he => by
    simp only [flatFs] at hf
    split at hf
    · rename_i hc
      simp only [Bool.and_eq_true] at hc
      split at hf
      · rename_i l hl
        split at hf
        · rename_i q hq
          simp at hf; subst hf
          obtain ⟨hsome, hsz, hone⟩ := flatT_one hl
          obtain ⟨r1, r2, e1, e2, rfl⟩ := eqL_split he
          obtain ⟨l1, l2⟩ := eqL_len e1
          have hl1 : o + l.length ≤ vs.length ∨ l.length = 0 := by rw [hv.len]; simp at l1; omega
          have hl2 : o + l.length ≤ us.length ∨ l.length = 0 := by rw [hu.len]; simp at l2; omega
          obtain ⟨x, hx, px⟩ := run_part_Pk hsz hsome hone hl1 w
          obtain ⟨y, hy, py⟩ := run_part_Pk hsz hsome hone hl2 w
          have hqq := ih f.type l hl _ _ _ _ r1 ((hv.drop o).take l.length) ((hu.drop o).take l.length) e1 x y px py
          rw [List.drop_drop, List.drop_drop] at e2
          have hr := run_eqFields_flat ih hv hu fs (o + l.length) q r2 hq e2
          have hne : f.name ≠ "_" := by simpa using hc.1
          have hoff' : f.offset = o := by simpa using hc.2
          simp only [Op.eqFields, ne_eq, hne, not_false_eq_true, if_true, Sem.run_bind, hoff', hx, hy, hqq, Result.andThen_ok]
          cases r1
          · simp
          · simpa using hr
        · cases hf
      · cases hf
    · cases hf
theorem run_eqItems_flat {n : Nat} {e : TypeId} {l : List Bool} (hsz : sizeIs P e l.length = true) (hsome : (P.underlying e).isSome = true) (hone : (match P.underlying e with | some (.struct _) | some (.array ..) => True | _ => l.length = 1))
    (ih : ∀ cs ds vs us r, CL c w cs vs → CL c w ds us → eqL l cs ds = some r → ∀ x y, Pk P e vs x → Pk P e us y → (Op.equalIn n e x y).run P w = .ok r w)
    {cs ds : List AV} {vs us : List Value} (hv : CL c w cs vs) (hu : CL c w ds us) : ∀ (m o : Nat) (r : Bool), eqL ((List.replicate m l).flatten) (cs.drop (o * l.length)) (ds.drop (o * l.length)) = some r →
      (Op.eqItems n e l.length vs.toArray us.toArray (List.range' o m)).run P w = .ok r w
  | 0, o, r, he => by
    have : r = true := by
      revert he
      cases cs.drop (o * l.length) <;> cases ds.drop (o * l.length) <;> simp [eqL]
    subst this
    simp [Op.eqItems]
  | m + 1, o, r, he => by
    rw [List.replicate_succ, List.flatten_cons] at he
    obtain ⟨r1, r2, e1, e2, rfl⟩ := eqL_split he
    obtain ⟨l1, l2⟩ := eqL_len e1
    have hl1 : o * l.length + l.length ≤ vs.length ∨ l.length = 0 := by rw [hv.len]; simp at l1; omega
    have hl2 : o * l.length + l.length ≤ us.length ∨ l.length = 0 := by rw [hu.len]; simp at l2; omega
    obtain ⟨x, hx, px⟩ := run_part_Pk hsz hsome hone hl1 w
    obtain ⟨y, hy, py⟩ := run_part_Pk hsz hsome hone hl2 w
    have hq := ih _ _ _ _ r1 ((hv.drop _).take l.length) ((hu.drop _).take l.length) e1 x y px py
    rw [List.drop_drop, List.drop_drop] at e2
    have hs : o * l.length + l.length = (o + 1) * l.length := by rw [Nat.add_mul]; omega
    rw [hs] at e2
    have hr := run_eqItems_flat hsz hsome hone ih hv hu m (o + 1) r2 e2
    simp only [List.range'_succ, Op.eqItems, Sem.run_bind, hx, hy, hq, Result.andThen_ok]
    cases r1
    · simp
    · simpa using hr
theorem cellsOf_size {t : TypeId} {n : Nat} (h : sizeIs P t n = true) : P.cellsOf t = n := by
  obtain ⟨i, hi, hs⟩ := sizeIs_info h
  simp [Program.cellsOf, hi, hs]
theorem eqL_b {as bs : List AV} {r : Bool} (h : eqL [true] as bs = some r) : ∃ p q, as = [.bool p] ∧ bs = [.bool q] ∧ r = (p == q) := by
  obtain ⟨p, q, as', bs', s, rfl, rfl, e, rfl⟩ := eqL_t h
  obtain ⟨rfl, rfl, rfl⟩ := eqL_nil e
  exact ⟨p, q, rfl, rfl, by simp⟩
theorem eqL_i {as bs : List AV} {r : Bool} (h : eqL [false] as bs = some r) : ∃ k p q, as = [.int k p] ∧ bs = [.int k q] ∧ r = (p == q) := by
  obtain ⟨k, p, q, as', bs', s, rfl, rfl, e, rfl⟩ := eqL_f h
  obtain ⟨rfl, rfl, rfl⟩ := eqL_nil e
  exact ⟨k, p, q, rfl, rfl, by simp⟩
theorem CL.single {a : AV} {vs : List Value} (h : CL c w [a] vs) : ∃ v, vs = [v] ∧ VR c w a v := by
  obtain ⟨v, vs', rfl, h1, _, h2⟩ := h.uncons
  have := h2.len
  simp at this
  subst this
  exact ⟨v, rfl, h1⟩
theorem run_equalIn_flat : ∀ (d : Nat) (t : TypeId) (sg : List Bool), flatT P d t = some sg → ∀ n, d ≤ n → ∀ cs ds vs us r, CL c w cs vs → CL c w ds us → eqL sg cs ds = some r → ∀ x y, Pk P t vs x → Pk P t us y → (Op.equalIn n t x y).run P w = .ok r w
  | 0, _, _, h => by simp [flatT] at h
  | d + 1, t, sg, h => by
    intro n hn cs ds vs us r hv hu he x y px py
    obtain ⟨n, rfl⟩ : ∃ m, n = m + 1 := ⟨n - 1, by omega⟩
    have ihs := fun t sg h => run_equalIn_flat d t sg h n (by omega)
    unfold flatT at h
    unfold Pk at px py
    cases e : P.underlying t with
    | none => rw [e] at h; cases h
    | some k =>
      rw [e] at h px py
      cases k
      case bool =>
        simp only at px py h
        split at h
        · simp at h; subst h
          obtain ⟨p, q, rfl, rfl, rfl⟩ := eqL_b he
          obtain ⟨v, rfl, hv1⟩ := hv.single
          obtain ⟨u, rfl, hu1⟩ := hu.single
          simp at px py; subst px; subst py
          cases hv1; cases hu1
          exact run_equalIn_bool' w n t _ _ e
        · cases h
      case int q =>
        simp only at px py h
        split at h
        · simp at h; subst h
          obtain ⟨k, p, q, rfl, rfl, rfl⟩ := eqL_i he
          obtain ⟨v, rfl, hv1⟩ := hv.single
          obtain ⟨u, rfl, hu1⟩ := hu.single
          simp at px py; subst px; subst py
          cases hv1; cases hu1
          exact run_equalIn_int w n t _ _ _ _ e
        · cases h
      case struct fs =>
        simp only at px py h
        subst px; subst py
        split at h
        · cases h
        · rename_i hst
          split at h
          · rename_i l hl
            split at h
            · simp at h; subst h
              have hfo : P.fieldsOf t = fs := by simp [Program.fieldsOf, e]
              rw [run_equalIn_struct w n t _ _ (by rw [hfo]; exact e) (by simpa using hst), hfo]
              exact run_eqFields_flat ihs hv hu fs.toList 0 l r hl (by simpa using he)
            · cases h
          · cases h
      case array m e' =>
        simp only at px py h
        subst px; subst py
        split at h
        · rename_i l hl
          split at h
          · simp at h; subst h
            obtain ⟨hsome, hsz, hone⟩ := flatT_one hl
            obtain ⟨i, hi, hs⟩ := sizeIs_info hsz
            rw [run_equalIn_array w n _ _ e hi, cellsOf_size hsz]
            have := run_eqItems_flat hsz hsome hone (ihs e' l hl) hv hu m 0 r (by simpa using he)
            rw [List.range_eq_range']; exact this
          · cases h
        · cases h
      all_goals cases h
end
end Go.Proofs.AM

namespace Go.Proofs.AM
open Go

section
variable {P : Program} {E : Env} {c0 : Cf} {st0 : St} {w0 : World} {mk : List Nat} {c : Cf} {st : St} {w : World} {lam : Nat → Nat} {bs : Bxs} {ts : List (Nat × TV)} {a : Act}

theorem keyT_flat {t : TypeId} {sg : List Bool} (h : keyT P t sg = true) : flatT P 6 t = some sg ∧ ∀ vs : List Value, Pk P t vs (.agg vs.toArray) := by
  simp only [keyT, Bool.and_eq_true, decide_eq_true_eq] at h
  refine ⟨h.1, fun vs => ?_⟩
  have h := h.2
  unfold Pk
  split at h <;> first | (rename_i e; rw [e]) | cases h
theorem run_equal_key {t : TypeId} {sg : List Bool} (h : keyT P t sg = true) {cs ds : List AV} {vs us : List Value} (hv : CL c w cs vs) (hu : CL c w ds us) {r : Bool} (he : eqL sg cs ds = some r) :
    (Op.equalIn 10000 t (.agg vs.toArray) (.agg us.toArray)).run P w = .ok r w := by
  obtain ⟨hf, hp⟩ := keyT_flat h
  exact run_equalIn_flat 6 t sg hf 10000 (by omega) cs ds vs us r hv hu he _ _ (hp _) (hp _)
theorem sim_eqs (hts : TS c w lam ts a.tmps) {o : Oper} {neq : Bool} {sg : List Bool} {x y : AX} (hok : okOp P (.eqs neq sg x y) o.op = true) {cs ds : List AV} (hu : rdV ts x = some (.agg cs)) (hv : rdV ts y = some (.agg ds)) {r : Bool} (he : eqL sg cs ds = some r) :
    Pure1 P a c w lam o (.v (.bool (if neq then !r else r))) := by
  unfold Pure1 execOp
  cases ho : o.op <;> rw [ho] at hok <;> simp [okOp] at hok
  rename_i op' ty x' y' ty'
  obtain ⟨⟨⟨⟨hop, hx⟩, hy⟩, hk⟩, hg⟩ := hok
  obtain ⟨vs, e1, h1⟩ := (rdV_VR hts hx hu).agg_inv
  obtain ⟨us, e2, h2⟩ := (rdV_VR hts hy hv).agg_inv
  have hq := run_equal_key hk h1 h2 he
  refine ⟨_, ?_, .v (.bool _)⟩
  subst hop
  cases neq <;> simp [e1, e2, run_eqGuard_agg _ _ _ _ _ _ _ hg, run_eql_struct, run_neq_struct, hq]

theorem sim_ext (hts : TS c w lam ts a.tmps) {o : Oper} {i : Nat} {x : AX} (hok : okOp P (.ext i x) o.op = true) {vs : List AV} (hv : rdV ts x = some (.tup vs)) {u : AV} (hi : vs[i]? = some u) : Pure1 P a c w lam o (.v u) := by
  unfold Pure1 execOp
  cases ho : o.op <;> rw [ho] at hok <;> simp [okOp] at hok
  rename_i y j
  obtain ⟨rfl, hx⟩ := hok
  have h := rdV_VR hts hx hv
  dsimp only
  generalize a.eval y = z at h ⊢
  cases h
  rename_i cs' hl hr
  obtain ⟨hlt, rfl⟩ := List.getElem?_eq_some_iff.1 hi
  have hlt' : i < cs'.length := by rw [hl]; exact hlt
  have := hr i hlt
  rw [List.getD_eq_getElem?_getD, List.getElem?_eq_getElem hlt'] at this
  exact ⟨cs'[i], by simp [Instr.extract, hlt'], .v (by simpa using this)⟩
theorem sim_mkf (hts : TS c w lam ts a.tmps) {o : Oper} {f : Nat} {fs cs : List AX} (hok : okOp P (.mkf f fs cs) o.op = true) {us vs : List AV} (hu : rdVs ts fs = some us) (hv : rdVs ts cs = some vs) : Pure1 P a c w lam o (.v (.fn f us vs)) := by
  unfold Pure1 execOp
  cases ho : o.op <;> rw [ho] at hok <;> simp [okOp] at hok
  rename_i g gs ds
  obtain ⟨⟨hg, h1⟩, h2⟩ := hok
  cases g <;> simp at hg
  subst hg
  obtain ⟨l1, r1⟩ := rdVs_rel hts h1 hu
  obtain ⟨l2, r2⟩ := rdVs_rel hts h2 hv
  refine ⟨_, ?_, .v (.fn f us vs _ _ l1 l2 r1 r2)⟩
  simp only [Instr.makeFunc, Sem.run_bind, Sem.run_pure, Result.andThen_ok]
  congr 3
  · apply Array.ext'; simp
  · apply Array.ext'; simp

theorem run_mm2 {mx : Bool} {u v r : AV} {x y : Value} (hx : VR c w u x) (hy : VR c w v y) (h : mm2 mx u v = some r) : ∃ z, (if mx then Builtin.max2 x y else Builtin.min2 x y).run P w = .ok z w ∧ VR c w r z := by
  unfold mm2 at h
  split at h
  · simp at h; subst h
    cases hx; cases hy
    refine ⟨_, ?_, .int _ _⟩
    cases mx <;> simp [Builtin.max2, Builtin.min2]
  · cases h
theorem run_mmL {mx : Bool} : ∀ {vs : List AV} {u r : AV} {x : Value} {ys : List Value}, VR c w u x → ys.length = vs.length → (∀ k (h : k < vs.length), VR c w (vs[k]'h) (ys.getD k undef)) → mmL mx u vs = some r →
    ∃ z, (ys.foldlM (fun x y => if mx then Builtin.max2 x y else Builtin.min2 x y) x).run P w = .ok z w ∧ VR c w r z
  | [], u, r, x, ys, hx, hl, _, h => by
    simp at hl; subst hl
    simp [mmL] at h; subst h
    exact ⟨x, by simp, hx⟩
  | v :: vs, u, r, x, ys, hx, hl, hr, h => by
    cases ys with
    | nil => simp at hl
    | cons y ys =>
      simp only [mmL] at h
      split at h
      · rename_i q e
        obtain ⟨z, hz, hvz⟩ := run_mm2 (P := P) hx (hr 0 (Nat.succ_pos _)) e
        obtain ⟨z', hz', hvz'⟩ := run_mmL (ys := ys) hvz (by simpa using hl) (fun k hk => hr (k + 1) (Nat.succ_lt_succ hk)) h
        refine ⟨z', ?_, hvz'⟩
        simp only [List.foldlM_cons, Sem.run_bind]
        simp only [List.getD_cons_zero] at hz
        rw [hz]
        exact hz'
      · cases h
theorem sim_mm (hts : TS c w lam ts a.tmps) {o : Oper} {mx : Bool} {x : AX} {xs : List AX} (hok : okOp P (.mm mx x xs) o.op = true) {u : AV} (hu : rdV ts x = some u) {vs : List AV} (hv : rdVs ts xs = some vs) {r : AV} (h : mmL mx u vs = some r) : Pure1 P a c w lam o (.v r) := by
  unfold Pure1 execOp
  cases ho : o.op <;> rw [ho] at hok <;> simp [okOp] at hok
  rename_i cl
  obtain ⟨hc, hx⟩ := hok
  obtain ⟨cal, ⟨args⟩, tys⟩ := cl
  simp only at hc hx
  cases args with
  | nil => simp [okXs] at hx
  | cons y ys =>
    simp [okXs] at hx
    obtain ⟨l, hr⟩ := rdVs_rel hts hx.2 hv
    obtain ⟨z, hz, hvz⟩ := run_mmL (P := P) (rdV_VR hts hx.1 hu) l hr h
    refine ⟨z, ?_, .v hvz⟩
    split at hc
    · subst hc
      simp only [if_true] at hz
      simp [resolve, invoke, builtin, Builtin.max_, hz]
    · simp at hc; subst hc
      simp only [Bool.false_eq_true, if_false] at hz
      simp [resolve, invoke, builtin, Builtin.min_, hz]
    · cases hc

/-! ### Slicing -/
theorem rdO_map (hts : TS c w lam ts a.tmps) {x : Option AX} {y : Option Operand} (hx : okXo x y = true) {i : Option Int} (h : rdO ts x = some i) : (y.map a.eval = none ∧ i = none) ∨ ∃ k n, y.map a.eval = some (.int k n) ∧ i = some n := by
  cases x <;> cases y <;> simp [okXo] at hx
  · simp [rdO] at h; subst h; exact .inl ⟨rfl, rfl⟩
  · simp only [rdO] at h
    split at h
    · rename_i n e
      simp at h; subst h
      obtain ⟨k, e'⟩ := rdI_int hts hx e
      exact .inr ⟨k, n, by simp [e'], rfl⟩
    · cases h
theorem run_slice_gen {t e : TypeId} {es : Nat} (hu : P.underlying t = some (.slice e)) (hz : sizeIs P e es = true) {base : Option Addr} {len cap : Nat} {lo hi mx : Option Value} {l h m : Nat}
    (hb : (Instr.sliceBounds true len cap lo hi mx).run P w = .ok (l, h, m) w) :
    (Instr.sliceAt t (.slice base len cap) lo hi mx).run P w = .ok (.slice (if m = l then base else base.map (·.add (l * es))) (h - l) (m - l)) w := by
  have hz' := run_sizeOf hz w
  simp [Instr.sliceAt, run_underlying hu, Instr.slice, hb, hz']
theorem run_bounds {len cap : Nat} {lo hi mx : Option Value} {l h m : Int} {li hi' mi : Option Int} (hl : (lo = none ∧ li = none) ∨ ∃ k n, lo = some (.int k n) ∧ li = some n) (hh : (hi = none ∧ hi' = none) ∨ ∃ k n, hi = some (.int k n) ∧ hi' = some n)
    (hm : (mx = none ∧ mi = none) ∨ ∃ k n, mx = some (.int k n) ∧ mi = some n) (e1 : l = li.getD 0) (e2 : h = hi'.getD len) (e3 : m = mi.getD cap) (b1 : 0 ≤ l) (b2 : l ≤ h) (b3 : h ≤ m) (b4 : m ≤ cap) (b5 : mi.isSome → hi'.isSome) :
    (Instr.sliceBounds true len cap lo hi mx).run P w = .ok (l.toNat, h.toNat, m.toNat) w := by
  have sb : ∀ (k : IntKind) (i : Int) (y : Nat) (code : BoundsCode), 0 ≤ i → i ≤ y → (Instr.sliceBound (.int k i) y code).run P w = .ok i.toNat w := fun k i y code h0 h1 => run_sliceBound (P := P) w k i y code h0 h1
  rcases hm with ⟨rfl, rfl⟩ | ⟨km, nm, rfl, rfl⟩
  · simp only [Option.getD_none] at e3
    subst e3
    rcases hh with ⟨rfl, rfl⟩ | ⟨kh, nh, rfl, rfl⟩
    · simp only [Option.getD_none] at e2
      subst e2
      rcases hl with ⟨rfl, rfl⟩ | ⟨kl, nl, rfl, rfl⟩
      · simp only [Option.getD_none] at e1; subst e1
        simp [Instr.sliceBounds]
      · simp only [Option.getD_some] at e1; subst e1
        simp [Instr.sliceBounds, sb kl l len _ b1 b2]
    · simp only [Option.getD_some] at e2; subst e2
      have hs := sb kh h cap BoundsCode.sliceAcap (by omega) (by omega)
      rcases hl with ⟨rfl, rfl⟩ | ⟨kl, nl, rfl, rfl⟩
      · simp only [Option.getD_none] at e1; subst e1
        simp [Instr.sliceBounds, hs]
      · simp only [Option.getD_some] at e1; subst e1
        simp [Instr.sliceBounds, hs, sb kl l h.toNat _ b1 (by omega)]
  · simp only [Option.getD_some] at e3; subst e3
    have hs3 := sb km m cap BoundsCode.slice3Acap (by omega) b4
    rcases hh with ⟨rfl, rfl⟩ | ⟨kh, nh, rfl, rfl⟩
    · simp at b5
    · simp only [Option.getD_some] at e2; subst e2
      have hs := sb kh h m.toNat BoundsCode.slice3B (by omega) (by omega)
      rcases hl with ⟨rfl, rfl⟩ | ⟨kl, nl, rfl, rfl⟩
      · simp only [Option.getD_none] at e1; subst e1
        simp [Instr.sliceBounds, hs, hs3]
      · simp only [Option.getD_some] at e1; subst e1
        simp [Instr.sliceBounds, hs, hs3, sb kl l h.toNat BoundsCode.slice3C b1 (by omega)]
/-- A slice that nobody writes any more, by its cells. -/
theorem VR.mk_lst {nl : Option Bool} {ex : Bool} {n : Nat} {cs : List AV} {ad : Option Addr} {cap : Nat} (hnl : ∀ y, nl = some y → ad.isNone = y) (hcap : n ≤ cap) (hmx : cap ≤ maxLen) (hex : ex = true → cap = n) (hp : 0 < n → ad.isSome = true)
    (hr : ∀ q, ad = some q → (0 < cs.length → c.fz q.block) ∧ Reads c w q cs) (hn : ad = none → cs = []) : VR c w (.lst nl ex n cs) (.slice ad n cap) := by
  cases ad with
  | none =>
    obtain rfl := hn rfl
    exact .lst nl ex n [] none cap (fun _ => undef) hnl hcap hmx hex hp (by simp) (by simp)
  | some q =>
    obtain ⟨hf, vs, hl, hc⟩ := hr q rfl
    refine .lst nl ex n cs (some q) cap (fun k => vs.getD k undef) hnl hcap hmx hex hp (fun k hk => ⟨q, rfl, hf (by omega), ?_, ?_⟩) (fun k hk => hl.rel k hk)
    · have : k < vs.length := by rw [hl.len]; exact hk
      exact hc k _ (by simp [List.getD_eq_getElem?_getD, List.getElem?_eq_getElem this])
    · have : k < vs.length := by rw [hl.len]; exact hk
      simp only [List.getD_eq_getElem?_getD, List.getElem?_eq_getElem this, Option.getD_some]
      exact hl.one _ (List.getElem_mem _)
theorem VR.mk_nolst (b : Bool) (n : Nat) (ad : Option Addr) (cap : Nat) (h0 : n = 0) (hb : ad.isNone = b) (hc : cap = 0) : VR c w (.lst (some b) true 0 []) (.slice ad n cap) := by
  subst h0; subst hc
  exact .lst (some b) true 0 [] ad 0 (fun _ => undef) (fun y hy => by cases hy; exact hb) (Nat.le_refl _) (Nat.zero_le _) (fun _ => rfl) (by simp) (by simp) (by simp)
end
end Go.Proofs.AM

namespace Go.Proofs.AM
open Go

section
variable {P : Program} {E : Env} {c0 : Cf} {st0 : St} {w0 : World} {mk : List Nat} {c : Cf} {st : St} {w : World} {lam : Nat → Nat} {bs : Bxs} {ts : List (Nat × TV)} {a : Act}

theorem VR.sl_inv {es id ver off n : Nat} {cap : Option Nat} {x : Value} (h : VR c w (.sl es id ver off n cap) x) :
    ∃ b k, x = .slice (some ⟨b, off, none⟩) n (cap.getD k) ∧ c.bt id ver = some (b, k) ∧ n ≤ cap.getD k ∧ cap.getD k ≤ maxLen ∧ (cap = none → off = 0) := by
  cases h with
  | sl es id ver off n cap b k hb hcap hmx hoff => exact ⟨b, k, rfl, hb, hcap, hmx, hoff⟩
theorem VR.mk_sl {es id ver off n m b k : Nat} (hb : c.bt id ver = some (b, k)) (hcap : n ≤ m) (hmx : m ≤ maxLen) : VR c w (.sl es id ver off n (some m)) (.slice (some ⟨b, off, none⟩) n m) :=
  VR.sl es id ver off n (some m) b k hb hcap hmx (by simp)
theorem VR.mk_sl0 {es id ver n b k : Nat} (hb : c.bt id ver = some (b, k)) (hcap : n ≤ k) (hmx : k ≤ maxLen) : VR c w (.sl es id ver 0 n none) (.slice (some ⟨b, 0, none⟩) n k) :=
  VR.sl es id ver 0 n none b k hb hcap hmx (by simp)
theorem add_zero (q : Addr) : q.add 0 = q := by simp [Addr.add]
theorem sim_slc (hts : TS c w lam ts a.tmps) {o : Oper} {es : Nat} {x : AX} {lo hi mx : Option AX} (hok : okOp P (.slc es x lo hi mx) o.op = true) {u : AV} (hu : rdV ts x = some u) {li hi' mi : Option Int} (hl : rdO ts lo = some li) (hh : rdO ts hi = some hi')
    (hm : rdO ts mx = some mi) {r : AV} (h : slcA es u li hi' mi = some r) : Pure1 P a c w lam o (.v r) := by
  unfold Pure1 execOp
  cases ho : o.op <;> rw [ho] at hok <;> simp [okOp] at hok
  rename_i t y lo' hi'' mx'
  obtain ⟨⟨⟨⟨hx, hlo⟩, hhi⟩, hmx⟩, hel⟩ := hok
  obtain ⟨e, hue, hz⟩ := elemIs_info hel
  have hv := rdV_VR hts hx hu
  have rl := rdO_map hts hlo hl
  have rh := rdO_map hts hhi hh
  have rm := rdO_map hts hmx hm
  dsimp only
  generalize a.eval y = z at hv ⊢
  unfold slcA at h
  split at h
  · rename_i nl ex n cs
    obtain ⟨ad, cap, rfl, hnl, hcap, hmxl, hex, hp, hr, hnn⟩ := hv.lst_inv
    simp only at h
    split at h
    · rename_i hc
      obtain ⟨b1, b2, b3, b5⟩ := hc
      split at h
      · simp at h; subst h
        have hb := run_bounds (P := P) (w := w) (cap := cap) rl rh rm rfl rfl rfl b1 b2 (by simp; omega) (by simp) b5
        refine ⟨_, by rw [Sem.run_bind, run_slice_gen hue hz hb]; rfl, .v ?_⟩
        · simp only [Option.getD_none, Int.toNat_natCast]
          by_cases hcl : cap = (li.getD 0).toNat
          · rw [if_pos hcl]
            have h0 : (hi'.getD n - li.getD 0).toNat = 0 := by omega
            have h1 : cap - (li.getD 0).toNat = 0 := by omega
            have h2 : (hi'.getD n).toNat - (li.getD 0).toNat = 0 := by omega
            rw [h0, h1, h2, Nat.zero_mul, List.take_zero]
            exact VR.mk_lst hnl (Nat.le_refl _) (Nat.zero_le _) (fun _ => rfl) (by omega) (fun q hq => ⟨by simp, ⟨[], CL.nil c w, by simp⟩⟩) (fun _ => rfl)
          · rw [if_neg hcl]
            have h2 : (hi'.getD n).toNat - (li.getD 0).toNat = (hi'.getD n - li.getD 0).toNat := by omega
            rw [h2]
            refine VR.mk_lst (fun y hy => by rw [← hnl y hy]; cases ad <;> rfl) (by omega) (by omega) (fun hx => ?_) (fun h0 => by have := hp (by omega); cases ad <;> simp_all) (fun q hq => ?_) (fun hn => ?_)
            · simp only [Bool.and_eq_true, beq_iff_eq] at hx
              have := hex hx.1
              omega
            · cases ad with
              | none => simp at hq
              | some q' =>
                simp at hq; subst hq
                obtain ⟨h3, h4⟩ := hr q' rfl
                exact ⟨fun h0 => by rw [add_block]; exact h3 (by simp at h0; omega), (h4.drop _).take _⟩
            · cases ad with
              | none => rw [hnn rfl]; simp
              | some q' => simp at hn
      · rename_i m
        split at h
        · rename_i hm2
          simp at h; subst h
          have hb := run_bounds (P := P) (w := w) (cap := cap) rl rh rm rfl rfl rfl b1 b2 (by simp; omega) (by simp; omega) b5
          refine ⟨_, by rw [Sem.run_bind, run_slice_gen hue hz hb]; rfl, .v ?_⟩
          · simp only [Option.getD_some]
            have h2 : (hi'.getD n).toNat - (li.getD 0).toNat = (hi'.getD n - li.getD 0).toNat := by omega
            rw [h2]
            by_cases hcl : m.toNat = (li.getD 0).toNat
            · rw [if_pos hcl]
              have h0 : (hi'.getD n - li.getD 0).toNat = 0 := by omega
              rw [h0, Nat.zero_mul, List.take_zero]
              exact VR.mk_lst hnl (Nat.zero_le _) (by omega) (fun _ => by omega) (by omega) (fun q hq => ⟨by simp, ⟨[], CL.nil c w, by simp⟩⟩) (fun _ => rfl)
            · rw [if_neg hcl]
              refine VR.mk_lst (fun y hy => by rw [← hnl y hy]; cases ad <;> rfl) (by omega) (by omega) (fun hx => by simp at hx; omega) (fun h0 => by have := hp (by omega); cases ad <;> simp_all) (fun q hq => ?_) (fun hn => ?_)
              · cases ad with
                | none => simp at hq
                | some q' =>
                  simp at hq; subst hq
                  obtain ⟨h3, h4⟩ := hr q' rfl
                  exact ⟨fun h0 => by rw [add_block]; exact h3 (by simp at h0; omega), (h4.drop _).take _⟩
              · cases ad with
                | none => rw [hnn rfl]; simp
                | some q' => simp at hn
        · cases h
    · cases h
  · rename_i es' id ver off n cap
    obtain ⟨b, k, rfl, hb, hcap, hmxl, hoff⟩ := hv.sl_inv
    simp only at h
    split at h
    · rename_i hc
      obtain ⟨rfl, b1, b2, b3, b5⟩ := hc
      split at h
      · rename_i m
        split at h
        · rename_i hm2
          have hbd := run_bounds (P := P) (w := w) (cap := cap.getD k) rl rh rm rfl rfl rfl b1 b2 (by simp; omega) (by simp; omega) b5
          refine ⟨_, by rw [Sem.run_bind, run_slice_gen hue hz hbd]; rfl, .v ?_⟩
          simp only [Option.getD_some]
          split at h
          · rename_i hml
            simp at h; subst h
            rw [if_pos (by omega)]
            refine VR.mk_nolst false _ _ _ ?_ rfl ?_ <;> omega
          · simp at h; subst h
            rw [if_neg (by omega)]
            have h2 : (hi'.getD n).toNat - (li.getD 0).toNat = (hi'.getD n - li.getD 0).toNat := by omega
            have h3 : m.toNat - (li.getD 0).toNat = (m - li.getD 0).toNat := by omega
            rw [h2, h3, Option.map_some, add_flat]
            refine VR.mk_sl hb ?_ ?_ <;> omega
        · cases h
      · have hbd := run_bounds (P := P) (w := w) (cap := cap.getD k) rl rh rm rfl rfl rfl b1 b2 (by simp; omega) (by simp) b5
        refine ⟨_, by rw [Sem.run_bind, run_slice_gen hue hz hbd]; rfl, .v ?_⟩
        simp only [Option.getD_none, Int.toNat_natCast]
        have h2 : (hi'.getD n).toNat - (li.getD 0).toNat = (hi'.getD n - li.getD 0).toNat := by omega
        split at h
        · rename_i cc
          simp only [Option.getD_some] at hcap hmxl ⊢
          split at h
          · rename_i hml
            simp at h; subst h
            rw [if_pos (by omega)]
            refine VR.mk_nolst false _ _ _ ?_ rfl ?_ <;> omega
          · simp at h; subst h
            rw [if_neg (by omega)]
            have h3 : cc - (li.getD 0).toNat = (cc - li.getD 0).toNat := by omega
            rw [h2, h3, Option.map_some, add_flat]
            refine VR.mk_sl hb ?_ ?_ <;> omega
        · split at h
          · rename_i hl0
            simp at h; subst h
            simp only [Option.getD_none] at hcap hmxl ⊢
            have h4 : (if k = (li.getD 0).toNat then some (⟨b, off, none⟩ : Addr) else (some (⟨b, off, none⟩ : Addr)).map (·.add ((li.getD 0).toNat * es'))) = some ⟨b, off, none⟩ := by
              split
              · rfl
              · simp [hl0, add_zero]
            rw [h4, hl0]
            have h5 : (hi'.getD n).toNat - Int.toNat 0 = (hi'.getD n).toNat := by simp
            have h6 : k - Int.toNat 0 = k := by simp
            rw [h5, h6]
            rw [hoff rfl]; refine VR.mk_sl0 hb ?_ hmxl; omega
          · cases h
    · cases h
  · cases h

/-! ### Building -/
theorem foldl_set : ∀ (vs : List Value) (off k : Nat) (cur : Array Value), off + k + vs.length ≤ cur.size →
    (vs.zipIdx k).foldl (fun cs (q : Value × Nat) => cs.setIfInBounds (off + q.2) q.1) cur = (cur.toList.take (off + k) ++ vs ++ cur.toList.drop (off + k + vs.length)).toArray
  | [], off, k, cur, _ => by simp
  | v :: vs, off, k, cur, h => by
    simp only [List.zipIdx_cons, List.foldl_cons]
    rw [foldl_set vs off (k + 1) _ (by simp at h ⊢; omega)]
    congr 1
    have e := list_seg_step cur.toList (off + k) v vs (by simp at h ⊢; omega)
    simpa [Array.toList_setIfInBounds, Nat.add_assoc] using e
theorem VR.cells {v : AV} {x : Value} (h : VR c w v x) {cs : List AV} (hc : v.cells = some cs) : CL c w cs x.cells.toList := by
  cases h <;> simp [AV.cells] at hc
  case agg cs' hl h1 hr => subst hc; exact ⟨hl, h1, hr⟩
  all_goals
    subst hc
    refine CL.cons ?_ rfl (CL.nil c w)
    first
      | exact .bool _
      | exact .int _ _
      | exact .nilf
      | exact .nilm
      | exact .nilp
      | (constructor <;> assumption)
theorem fill_spec {place : Nat → Option (Nat × Nat)} (hts : TS c w lam ts a.tmps) : ∀ {ps : List (Nat × Nat × AX)} {qs : List (Nat × Operand)} {cs r : List AV} {vs : List Value}, okParts P place ps qs = true → fillA ts cs ps = some r → CL c w cs vs →
    ∃ us, Instr.fill place vs.toArray (qs.map fun q => (q.1, a.eval q.2)) = some us.toArray ∧ CL c w r us
  | [], [], cs, r, vs, _, h, hl => by simp [fillA] at h; subst h; exact ⟨vs, by simp [Instr.fill], hl⟩
  | (off, n, x) :: ps, (i, y) :: qs, cs, r, vs, hok, h, hl => by
    simp only [okParts, Bool.and_eq_true] at hok
    obtain ⟨⟨hp, hx⟩, hrest⟩ := hok
    simp only [fillA] at h
    split at h
    · rename_i u hu
      split at h
      · rename_i new hn
        split at h
        · rename_i hlen
          have hv := rdV_VR hts hx hu
          have hc := hv.cells hn
          split at hp
          · rename_i o' m' hpl
            simp at hp
            obtain ⟨rfl, rfl⟩ := hp
            obtain ⟨arr, hcs⟩ : ∃ arr : List Value, (a.eval y).cells = arr.toArray := ⟨(a.eval y).cells.toList, by simp⟩
            rw [hcs] at hc
            simp only at hc
            have hcl : CL c w (splice cs o' new) (vs.take o' ++ arr ++ vs.drop (o' + arr.length)) := by
              unfold splice
              rw [show new.length = arr.length from hc.len.symm]
              exact ((hl.take o').append hc).append (hl.drop _)
            obtain ⟨us, hf, hus⟩ := fill_spec hts hrest h hcl
            refine ⟨us, ?_, hus⟩
            simp only [List.map_cons, Instr.fill, hpl, hcs]
            have e1 : arr.length = m' := by rw [hc.len]; exact hlen.1
            have e2 : o' + arr.length ≤ vs.length := by rw [hl.len]; omega
            have hno : ¬ ((arr.toArray.size ≠ m' || decide (o' + arr.toArray.size > vs.toArray.size)) = true) := by simp [e1]; omega
            rw [if_neg (by simpa using hno)]
            have hfs := foldl_set arr o' 0 vs.toArray (by simp; omega)
            have : (arr.toArray.zipIdx.foldl (fun cs (q : Value × Nat) => cs.setIfInBounds (o' + q.2) q.1) vs.toArray) = (vs.take o' ++ arr ++ vs.drop (o' + arr.length)).toArray := by
              rw [← Array.foldl_toList]
              simpa using hfs
            rw [← hf]
            congr 1
          · cases hp
        · cases h
      · cases h
    · cases h
  | [], _ :: _, _, _, _, h, _, _ => by simp [okParts] at h
  | _ :: _, [], _, _, _, h, _, _ => by simp [okParts] at h
end
end Go.Proofs.AM

namespace Go.Proofs.AM
open Go

section
variable {P : Program} {E : Env} {c0 : Cf} {st0 : St} {w0 : World} {mk : List Nat} {c : Cf} {st : St} {w : World} {lam : Nat → Nat} {bs : Bxs} {ts : List (Nat × TV)} {a : Act}

theorem zeroIs_run {t : TypeId} {zero : List AV} (h : zeroIs P t zero = true) : ∃ z, (∀ w, (zeroValue t).run P w = .ok z w) ∧ okVs zero z.cells.toList = true := by
  unfold zeroIs at h
  split at h
  · rename_i i hi
    split at h
    · rename_i z hz
      exact ⟨z, fun w => by simp [zeroValue, typeInfo, hi, hz], h⟩
    · cases h
  · cases h
theorem run_places (w : World) : ∀ (fs : List Field), (fs.all fun f => (P.info? f.type).isSome) = true →
    (fs.toArray.mapM fun f => do pure (f.offset, ← Go.sizeOf f.type) : Sem (Array (Nat × Nat))).run P w = .ok (fs.map fun f => (f.offset, ((P.info? f.type).map (·.size)).getD 0)).toArray w := by
  intro fs h
  rw [List.mapM_toArray]
  simp only [Sem.run_map]
  have : ∀ (fs : List Field), (fs.all fun f => (P.info? f.type).isSome) = true → (fs.mapM fun f => do pure (f.offset, ← Go.sizeOf f.type) : Sem (List (Nat × Nat))).run P w = .ok (fs.map fun f => (f.offset, ((P.info? f.type).map (·.size)).getD 0)) w := by
    intro fs
    induction fs with
    | nil => intro _; simp
    | cons f fs ih =>
      intro h
      simp only [List.all_cons, Bool.and_eq_true] at h
      obtain ⟨i, hi⟩ := Option.isSome_iff_exists.1 h.1
      have := ih h.2
      simp only [List.mapM_cons, Sem.run_bind, Go.sizeOf, typeInfo, run_program, Result.andThen_ok, hi, Sem.run_pure, List.map_cons, Option.map_some, Option.getD_some] at this ⊢
      rw [this]
      rfl
  rw [this fs h]
  rfl
theorem okParts_congr {p q : Nat → Option (Nat × Nat)} (h : ∀ i, p i = q i) : ∀ {ps : List (Nat × Nat × AX)} {qs : List (Nat × Operand)}, okParts P p ps qs = okParts P q ps qs
  | [], [] => rfl
  | (_, _, _) :: ps, (_, _) :: qs => by simp only [okParts]; rw [h, okParts_congr h]
  | [], _ :: _ => rfl
  | _ :: _, [] => rfl
theorem sim_build (hts : TS c w lam ts a.tmps) {o : Oper} {zero : List AV} {ps : List (Nat × Nat × AX)} (hok : okOp P (.build zero ps) o.op = true) {cs : List AV} (h : fillA ts zero ps = some cs) : Pure1 P a c w lam o (.v (.agg cs)) := by
  unfold Pure1 execOp
  cases ho : o.op <;> rw [ho] at hok <;> simp [okOp] at hok
  rename_i t qs
  obtain ⟨hz, hok⟩ := hok
  obtain ⟨z, hzr, hzv⟩ := zeroIs_run hz
  have hzl := okVs_CL (c := c) (w := w) hzv
  have hmap : ∀ (qs : Array (Nat × Operand)), (qs.map fun q => (q.1, a.eval q.2)).toList = qs.toList.map fun q => (q.1, a.eval q.2) := fun qs => by simp
  split at hok
  · rename_i fs hu
    simp only [Bool.and_eq_true] at hok
    obtain ⟨hall, hps⟩ := hok
    have hpl := run_places (P := P) w fs.toList (by simpa using hall)
    simp only [Array.toArray_toList] at hpl
    have hcong : ∀ i, fieldPlace1 P fs i = (fs.toList.map fun f => (f.offset, ((P.info? f.type).map (·.size)).getD 0)).toArray[i]? := by
      intro i
      unfold fieldPlace1
      cases hf : fs[i]? with
      | none => simp [hf]
      | some f =>
        have : f ∈ fs := Array.mem_of_getElem? hf
        have hs := (Array.all_eq_true'.1 hall) f this
        obtain ⟨j, hj⟩ := Option.isSome_iff_exists.1 hs
        simp [hf, hj]
    rw [okParts_congr hcong] at hps
    obtain ⟨us, hf, hus⟩ := fill_spec hts hps h hzl
    refine ⟨.agg us.toArray, ?_, .v (.agg _ _ hus.len hus.one hus.rel)⟩
    have e : z.cells.toList.toArray = z.cells := by simp
    rw [e] at hf
    simp only [Instr.build, Sem.run_bind, hzr, Result.andThen_ok, run_underlying hu, hpl]
    rw [hmap, hf]
    rfl
  · rename_i n e' hu
    split at hok
    · rename_i i hi
      obtain ⟨us, hf, hus⟩ := fill_spec hts hok h hzl
      refine ⟨.agg us.toArray, ?_, .v (.agg _ _ hus.len hus.one hus.rel)⟩
      have e : z.cells.toList.toArray = z.cells := by simp
      rw [e] at hf
      simp only [Instr.build, Sem.run_bind, hzr, Result.andThen_ok, run_underlying hu, Go.sizeOf, typeInfo, run_program, hi, Sem.run_pure]
      rw [hmap, hf]
      rfl
    · cases hok
  · cases hok

/-! ### Keys -/
theorem run_checkKey_flat {em : Bool} : ∀ (d : Nat) (t : TypeId) (sg : List Bool), flatT P d t = some sg → ∀ n, d ≤ n → ∀ vs : List Value, vs.length = sg.length → ∀ x, Pk P t vs x → (Instr.checkKey em n t x).run P w = .ok () w
  | 0, _, _, h => by simp [flatT] at h
  | d + 1, t, sg, h => by
    intro n hn vs hl x px
    obtain ⟨n, rfl⟩ : ∃ m, n = m + 1 := ⟨n - 1, by omega⟩
    have ihs := fun t sg h => run_checkKey_flat (em := em) d t sg h n (by omega)
    unfold flatT at h
    unfold Pk at px
    cases e : P.underlying t with
    | none => rw [e] at h; cases h
    | some k =>
      rw [e] at h px
      cases k
      case bool => simp [Instr.checkKey, run_underlying e]
      case int q => simp [Instr.checkKey, run_underlying e]
      case struct fs =>
        simp only at px h
        subst px
        split at h
        · cases h
        · split at h
          · rename_i l hfl
            split at h
            · simp at h; subst h
              simp only [Instr.checkKey, Sem.run_bind, run_underlying e, Result.andThen_ok]
              rw [← Array.forIn_toList]
              have key : ∀ (fs : List Field) (o : Nat) (l : List Bool), flatFs P (flatT P d) o fs = some l → o + l.length ≤ vs.length →
                  (forIn fs PUnit.unit (fun f _ => do
                    if f.name ≠ "_" then Instr.checkKey em n f.type (← part f.type vs.toArray f.offset)
                    pure (ForInStep.yield PUnit.unit)) : Sem PUnit).run P w = .ok PUnit.unit w := by
                intro fs
                induction fs with
                | nil => intro o l _ _; simp
                | cons f fs ih2 =>
                  intro o l hf hle
                  simp only [flatFs] at hf
                  split at hf
                  · rename_i hc
                    simp only [Bool.and_eq_true] at hc
                    split at hf
                    · rename_i l1 hl1
                      split at hf
                      · rename_i l2 hl2
                        simp at hf; subst hf
                        obtain ⟨hsome, hsz, hone⟩ := flatT_one hl1
                        have hle' : o + l1.length ≤ vs.length := by simp at hle; omega
                        obtain ⟨y, hy, py⟩ := run_part_Pk hsz hsome hone (.inl hle') w
                        have hne : f.name ≠ "_" := by simpa using hc.1
                        have hoff' : f.offset = o := by simpa using hc.2
                        have h1 := ihs f.type l1 hl1 _ (by simp; omega) y py
                        have h2 := ih2 (o + l1.length) l2 hl2 (by simp at hle; omega)
                        simp only [List.forIn_cons, Sem.run_bind, ne_eq, hne, not_false_eq_true, if_true, hoff', hy, Result.andThen_ok, h1, Sem.run_pure]
                        exact h2
                      · cases hf
                    · cases hf
                  · cases hf
              have := key fs.toList 0 l hfl (by omega)
              simp at this ⊢
              rw [this]; rfl
            · cases h
          · cases h
      case array m e' =>
        simp only at px h
        subst px
        split at h
        · rename_i l hfl
          split at h
          · simp at h; subst h
            obtain ⟨hsome, hsz, hone⟩ := flatT_one hfl
            simp only [Instr.checkKey, Sem.run_bind, run_underlying e, Result.andThen_ok]
            simp only [Std.Legacy.Range.forIn_eq_forIn_range', Std.Legacy.Range.size, Nat.sub_zero, Nat.add_one_sub_one, Nat.div_one]
            have key : ∀ (q o : Nat), (o + q) * l.length ≤ vs.length → (forIn (List.range' o q) PUnit.unit (fun i _ => do
                    Instr.checkKey em n e' (← part e' vs.toArray (i * (← Go.sizeOf e')))
                    pure (ForInStep.yield PUnit.unit)) : Sem PUnit).run P w = .ok PUnit.unit w := by
              intro q
              induction q with
              | zero => intro o _; simp
              | succ q ih2 =>
                intro o hle
                have hmul : (o + (q + 1)) * l.length = o * l.length + l.length + q * l.length := by rw [Nat.add_mul, Nat.add_mul]; omega
                obtain ⟨y, hy, py⟩ := run_part_Pk hsz hsome hone (vs := vs) (off := o * l.length) (.inl (by omega)) w
                have h1 := ihs e' l hfl _ (by simp; omega) y py
                have h2 := ih2 (o + 1) (by rw [show o + 1 + q = o + (q + 1) by omega]; exact hle)
                simp only [List.range'_succ, List.forIn_cons, Sem.run_bind, run_sizeOf hsz, Result.andThen_ok, hy, h1, Sem.run_pure]
                exact h2
            have := key m 0 (by rw [hl]; simp [List.length_flatten])
            simp at this ⊢
            rw [this]; rfl
          · cases h
        · cases h
      all_goals cases h

theorem run_findKey_asking {t : TypeId} {sg : List Bool} (h : keyT P t sg = true) (x : Value) (es : List MapEntry) (w1 : World) : (Instr.findKey t x es).run P w1 = (Instr.findAsking t x es).run P w1 := by
  have h2 := (keyT_flat h).1
  simp only [keyT, Bool.and_eq_true] at h
  have h := h.2
  split at h
  · rename_i fs e
    simp only [Instr.findKey, Sem.run_bind, run_underlying e, Result.andThen_ok]
    cases es with
    | nil => simp [Instr.findNow, Instr.findAsking]
    | cons m es => simp [Instr.findNow, Instr.sameNow]
  · rename_i q e' e
    simp only [Instr.findKey, Sem.run_bind, run_underlying e, Result.andThen_ok]
    cases es with
    | nil => simp [Instr.findNow, Instr.findAsking]
    | cons m es => simp [Instr.findNow, Instr.sameNow]
  · cases h

theorem run_find {t : TypeId} {sg : List Bool} (h : keyT P t sg = true) {kc : List AV} {kv : List Value} (hk : CL c w kc kv) : ∀ (es : List (List AV × AV)) (ms : List MapEntry) (j : Nat), ms.length = es.length → (∀ i (hi : i < es.length), ∃ m, ms[i]? = some m ∧ EntR c w (es[i]'hi) m) →
    ∀ r, findK sg kc es = some r →
      (r = none ∧ (Instr.findAsking t (.agg kv.toArray) ms j).run P w = .ok none w) ∨
      ∃ v i val, r = some v ∧ (Instr.findAsking t (.agg kv.toArray) ms j).run P w = .ok (some (j + i, val)) w ∧ VR c w v val ∧ ∃ hi : i < es.length, eqL sg kc (es[i]'hi).1 = some true ∧ ∀ a, updK sg kc a es = some (es.set i (kc, a))
  | [], ms, j, hl, _, r, hr => by
    simp at hl; subst hl
    simp [findK] at hr; subst hr
    exact .inl ⟨rfl, by simp [Instr.findAsking]⟩
  | (k', v') :: es, ms, j, hl, he, r, hr => by
    obtain ⟨m, hm, hv, vs, hkey, hcl⟩ := he 0 (Nat.succ_pos _)
    cases ms with
    | nil => simp at hl
    | cons m' ms =>
      simp at hm; subst hm
      simp only [findK] at hr
      split at hr
      · rename_i e
        simp at hr; subst hr
        refine .inr ⟨v', 0, m'.val, rfl, ?_, hv, Nat.succ_pos _, e, fun a => by simp [updK, e]⟩
        have := run_equal_key (P := P) h hk hcl e
        simp [Instr.findAsking, Op.equal, Op.maxDepth, hkey, this]
      · rename_i e
        have hq := run_equal_key (P := P) h hk hcl e
        rcases run_find h hk es ms (j + 1) (by simpa using hl) (fun i hi => by
          obtain ⟨m, hm, hr⟩ := he (i + 1) (Nat.succ_lt_succ hi)
          exact ⟨m, by simpa using hm, hr⟩) r hr with ⟨rfl, h1⟩ | ⟨v, i, val, rfl, h1, h2, hi, h3, h4⟩
        · refine .inl ⟨rfl, ?_⟩
          simp [Instr.findAsking, Op.equal, Op.maxDepth, hkey, hq, h1]
        · refine .inr ⟨v, i + 1, val, rfl, ?_, h2, Nat.succ_lt_succ hi, h3, fun a => by simp [updK, e, h4]⟩
          have : j + 1 + i = j + (i + 1) := by omega
          rw [this] at h1
          simp [Instr.findAsking, Op.equal, Op.maxDepth, hkey, hq, h1]
      · cases hr
end
end Go.Proofs.AM

namespace Go.Proofs.AM
open Go

section
variable {P : Program} {E : Env} {c0 : Cf} {st0 : St} {w0 : World} {mk : List Nat} {c : Cf} {st : St} {w : World} {lam : Nat → Nat} {bs : Bxs} {ts : List (Nat × TV)} {a : Act}

/-- One step within a frame. -/
structure Stp (c : Cf) (st : St) (w : World) (lam : Nat → Nat) (bs : Bxs) (c' : Cf) (st' : St) (w' : World) : Prop where
  le : c.le c'
  frame : ∀ b, b < w.heap.size → ¬ Owned c st b → (∀ s cs, lookB s bs = some cs → lam s ≠ b) → w'.heap[b]? = w.heap[b]?
  fz : ∀ b, c'.fz b → c.fz b ∨ Owned c st b ∨ w.heap.size ≤ b
  own : ∀ b, Owned c' st' b → Owned c st b ∨ w.heap.size ≤ b
  size : w.heap.size ≤ w'.heap.size
  os : w'.os = w.os
  tape : w'.tape = w.tape
  output : w'.output = w.output
theorem Gd.stp {c' : Cf} {st' : St} {w' : World} (g : Gd c st w c' st' w') (lam : Nat → Nat) (bs : Bxs) : Stp c st w lam bs c' st' w' := ⟨g.le, fun b h1 h2 _ => g.frame b h1 h2, g.fz, g.own, g.size, g.os, g.tape, g.output⟩
theorem SR.keep {c' : Cf} {st' : St} {w' : World} (hs : SR P E c0 st0 w0 mk c st w lam bs) (g : Stp c st w lam bs c' st' w') : ∀ b, c.fz b → w'.heap[b]? = w.heap[b]? :=
  fun b hb => g.frame b (hs.hr.fzl b hb) (hs.hr.fzo b hb) (fun s cs e h => (hs.bx s cs e).2.2.1 (h ▸ hb))
theorem SR.gd' {c' : Cf} {st' : St} {w' : World} (hs : SR P E c0 st0 w0 mk c st w lam bs) (g : Stp c st w lam bs c' st' w') : Gd c0 st0 w0 c' st' w' where
  le := Cf.le_trans hs.gd.le g.le
  frame b hb ho := by
    rw [g.frame b (Nat.lt_of_lt_of_le hb hs.gd.size) (fun ho' => (hs.gd.own b ho').elim ho (fun hl => by omega)) (fun s cs e h => by have := (hs.bx s cs e).1; omega), hs.gd.frame b hb ho]
  fz b hb := by
    rcases g.fz b hb with h1 | h1 | h1
    · exact hs.gd.fz b h1
    · rcases hs.gd.own b h1 with h2 | h2
      · exact .inr (.inl h2)
      · exact .inr (.inr h2)
    · exact .inr (.inr (Nat.le_trans hs.gd.size h1))
  own b hb := by
    rcases g.own b hb with h1 | h1
    · exact hs.gd.own b h1
    · exact .inr (Nat.le_trans hs.gd.size h1)
  size := Nat.le_trans hs.gd.size g.size
  os := g.os.trans hs.gd.os
  tape := g.tape.trans hs.gd.tape
  output := g.output.trans hs.gd.output
/-- A step that leaves the frame's boxes alone. -/
theorem SR.next {c' : Cf} {st' : St} {w' : World} (hs : SR P E c0 st0 w0 mk c st w lam bs) (g : Stp c st w lam bs c' st' w') (hb : ∀ s cs, lookB s bs = some cs → w'.heap[lam s]? = w.heap[lam s]?) (hm : ∀ r ∈ mk, w'.heap[r]? = w.heap[r]?)
    (hr : HR P E c' w' st') : SR P E c0 st0 w0 mk c' st' w' lam bs where
  hr := hr
  gd := hs.gd' g
  bx s cs e := by
    obtain ⟨h1, h2, h3, h4, h5⟩ := hs.bx s cs e
    refine ⟨h1, Nat.lt_of_lt_of_le h2 g.size, fun hf => ?_, fun ho => ?_, h5.mono g.le (hs.keep g) (hb s cs e)⟩
    · rcases g.fz _ hf with h | h | h
      · exact h3 h
      · exact h4 h
      · omega
    · rcases g.own _ ho with h | h
      · exact h4 h
      · omega
  bd := hs.bd
  md r hr' := by
    obtain ⟨h1, h2, h3, h4, h5⟩ := hs.md r hr'
    have hlt : r < w.heap.size := (Array.getElem?_eq_some_iff.1 h1).1
    refine ⟨(hm r hr').trans h1, h2, fun hf => ?_, fun ho => ?_, h5⟩
    · rcases g.fz _ hf with h | h | h
      · exact h3 h
      · exact h4 h
      · omega
    · rcases g.own _ ho with h | h
      · exact h4 h
      · omega
/-- A call's step. -/
theorem SR.call {c' : Cf} {st' : St} {w' : World} (hs : SR P E c0 st0 w0 mk c st w lam bs) (g : Gd c st w c' st' w') (hr : HR P E c' w' st') : SR P E c0 st0 w0 mk c' st' w' lam bs :=
  hs.next (g.stp lam bs) (fun s cs e => let ⟨_, h2, _, h4, _⟩ := hs.bx s cs e; g.frame _ h2 h4) (fun r hr' => let ⟨h1, _, _, h4, _⟩ := hs.md r hr'; g.frame r (Array.getElem?_eq_some_iff.1 h1).1 h4) hr

/-! ### One block more -/
structure Grew (w w' : World) (o : Obj) : Prop where
  heap : w'.heap = w.heap.push o
  os : w'.os = w.os
  tape : w'.tape = w.tape
  output : w'.output = w.output
theorem Grew.alloc (w : World) (o : Obj) : Grew w (w.alloc o) o := ⟨rfl, rfl, rfl, rfl⟩
theorem Grew.drewAlloc (w : World) (o : Obj) : Grew w (w.drew.alloc o) o := ⟨rfl, rfl, rfl, rfl⟩
theorem Grew.old {w' : World} {o : Obj} (g : Grew w w' o) {b : Nat} (h : b < w.heap.size) : w'.heap[b]? = w.heap[b]? := by rw [g.heap, Array.getElem?_push, if_neg (by omega)]
theorem Grew.new {w' : World} {o : Obj} (g : Grew w w' o) : w'.heap[w.heap.size]? = some o := by rw [g.heap]; simp
theorem Grew.size {w' : World} {o : Obj} (g : Grew w w' o) : w'.heap.size = w.heap.size + 1 := by rw [g.heap]; simp
theorem HR.grew {w' : World} {o : Obj} (h : HR P E c w st) (g : Grew w w' o) : HR P E c w' st where
  dom := h.dom
  lt id ver b k e := by have := h.lt id ver b k e; rw [g.size]; omega
  obj id ver b k e := (h.obj id ver b k e).mono (Cf.le_refl c) (fun b hb => g.old (h.fzl b hb)) (fun _ => g.old (h.lt _ _ _ _ e))
  inj := h.inj
  fzo := h.fzo
  fzl b hb := by have := h.fzl b hb; rw [g.size]; omega
  glob gl cs e := ⟨(h.glob gl cs e).1, (h.glob gl cs e).2.mono (Cf.le_refl c) (fun b hb => g.old (h.fzl b hb)) (g.old (h.fzl _ (h.glob gl cs e).1))⟩
  fut := h.fut
  tot := h.tot
theorem Stp.grew {w' : World} {o : Obj} (g : Grew w w' o) : Stp c st w lam bs c st w' := ⟨Cf.le_refl c, fun b hb _ _ => g.old hb, fun b h => .inl h, fun b h => .inl h, by rw [g.size]; omega, g.os, g.tape, g.output⟩
theorem SR.grew {w' : World} {o : Obj} (hs : SR P E c0 st0 w0 mk c st w lam bs) (g : Grew w w' o) : SR P E c0 st0 w0 mk c st w' lam bs :=
  hs.next (Stp.grew g) (fun s cs e => g.old (hs.bx s cs e).2.1) (fun r hr => g.old (Array.getElem?_eq_some_iff.1 (hs.md r hr).1).1) (hs.hr.grew g)
/-- A block that nobody knows of as one to be written is frozen. -/
def Cf.frz (c : Cf) (b : Nat) : Cf := { c with fz := fun x => c.fz x ∨ x = b }
theorem Cf.le_frz (c : Cf) (b : Nat) : c.le (c.frz b) := ⟨fun _ _ _ h => h, fun _ h => .inl h⟩
theorem SR.frz (hs : SR P E c0 st0 w0 mk c st w lam bs) {b : Nat} (hlt : b < w.heap.size) (hge : w0.heap.size ≤ b) (ho : ¬ Owned c st b) (hb : ∀ s cs, lookB s bs = some cs → lam s ≠ b) (hm : b ∉ mk) : SR P E c0 st0 w0 mk (c.frz b) st w lam bs := by
  have own : ∀ x, Owned (c.frz b) st x → Owned c st x := fun x h => h
  exact
    { hr := { dom := hs.hr.dom, lt := hs.hr.lt, obj := fun id ver b' k e => (hs.hr.obj id ver b' k e).mono (c.le_frz b) (fun _ _ => rfl) (fun _ => rfl), inj := hs.hr.inj,
              fzo := fun x hx h => hx.elim (fun hx => hs.hr.fzo x hx h) (fun hx => ho (hx ▸ h)), fzl := fun x hx => hx.elim (hs.hr.fzl x) (fun hx => by omega),
              glob := fun g cs e => ⟨.inl (hs.hr.glob g cs e).1, (hs.hr.glob g cs e).2.mono (c.le_frz b) (fun _ _ => rfl) rfl⟩, fut := hs.hr.fut, tot := hs.hr.tot }
      gd := { le := Cf.le_trans hs.gd.le (c.le_frz b), frame := hs.gd.frame, fz := fun x hx => hx.elim (hs.gd.fz x) (fun hx => .inr (.inr (hx ▸ hge))), own := hs.gd.own, size := hs.gd.size, os := hs.gd.os, tape := hs.gd.tape, output := hs.gd.output }
      bx := fun s cs e => let ⟨h1, h2, h3, h4, h5⟩ := hs.bx s cs e; ⟨h1, h2, fun hx => hx.elim h3 (hb s cs e), h4, h5.mono (c.le_frz b) (fun _ _ => rfl) rfl⟩
      bd := hs.bd
      md := fun r hr => let ⟨h1, h2, h3, h4, h5⟩ := hs.md r hr; ⟨h1, h2, fun hx => hx.elim h3 (fun hx => hm (hx ▸ hr)), h4, h5⟩ }

/-- A new box of the frame's own. -/
def setL (lam : Nat → Nat) (d b : Nat) : Nat → Nat := fun s => if s = d then b else lam s
theorem lookB_cons {d s : Nat} {cs : List AV} {bs : Bxs} {x : List AV} (h : lookB s ((d, cs) :: bs) = some x) : (s = d ∧ x = cs) ∨ (s ≠ d ∧ lookB s bs = some x) := by
  simp only [lookB] at h
  split at h
  · rename_i e; simp at h; exact .inl ⟨e.symm, h.symm⟩
  · rename_i e; exact .inr ⟨fun h' => e h'.symm, h⟩
theorem SR.box {w' : World} {cs : List AV} {vs : List Value} {e : TypeId} (hs : SR P E c0 st0 w0 mk c st w lam bs) (hl : CL c w cs vs) (g : Grew w w' (.cells vs.toArray e)) (d : Nat) :
    SR P E c0 st0 w0 mk c st w' (setL lam d w.heap.size) ((d, cs) :: bs) := by
  have h1 := hs.grew g
  have hk : ∀ b, c.fz b → w'.heap[b]? = w.heap[b]? := fun b hb => g.old (hs.hr.fzl b hb)
  refine { hr := h1.hr, gd := h1.gd, bx := fun s x hx => ?_, bd := fun s s' x x' hx hx' he => ?_, md := fun r hr => ?_ }
  · rcases lookB_cons hx with ⟨rfl, rfl⟩ | ⟨hne, hx⟩
    · simp only [setL, if_true]
      refine ⟨hs.gd.size, by rw [g.size]; omega, fun hf => by have := hs.hr.fzl _ hf; omega, fun ⟨id, ver, k, _, hb⟩ => by have := hs.hr.lt _ _ _ _ hb; omega, ?_⟩
      exact ⟨_, e, g.new, vs, [], by simp, hl.mono (Cf.le_refl c) hk⟩
    · simp only [setL, if_neg hne]
      exact h1.bx s x hx
  · rcases lookB_cons hx with ⟨h1, _⟩ | ⟨hne, hy⟩ <;> rcases lookB_cons hx' with ⟨h2, _⟩ | ⟨hne', hy'⟩
    · rw [h1, h2]
    · simp only [setL, if_pos h1, if_neg hne'] at he
      have := (hs.bx s' x' hy').2.1
      omega
    · simp only [setL, if_pos h2, if_neg hne] at he
      have := (hs.bx s x hy).2.1
      omega
    · simp only [setL, if_neg hne, if_neg hne'] at he
      exact hs.bd s s' x x' hy hy' he
  · obtain ⟨m1, m2, m3, m4, m5⟩ := h1.md r hr
    refine ⟨m1, m2, m3, m4, fun s x hx => ?_⟩
    rcases lookB_cons hx with ⟨rfl, rfl⟩ | ⟨hne, hx⟩
    · simp only [setL, if_true]
      have := (Array.getElem?_eq_some_iff.1 (hs.md r hr).1).1
      omega
    · simp only [setL, if_neg hne]
      exact m5 s x hx

/-- A new object of the heap. -/
def Cf.add (c : Cf) (id b k : Nat) : Cf := { c with bt := fun i v => if i = id ∧ v = 0 then some (b, k) else c.bt i v }
theorem HR.fresh (h : HR P E c w st) (v : Nat) : c.bt st.heap.length v = none := by
  cases e : c.bt st.heap.length v with
  | none => rfl
  | some x => have := h.dom _ _ _ e; omega
theorem HR.le_add (h : HR P E c w st) (b k : Nat) : c.le (c.add st.heap.length b k) := by
  refine ⟨fun i v x e => ?_, fun _ h => h⟩
  simp only [Cf.add]
  rw [if_neg (fun hx => by rw [hx.1, h.fresh] at e; cases e)]
  exact e
theorem own_alloc_old {o : AObj} {id ver : Nat} (h : id < st.heap.length) : own (alloc st o) id ver ↔ own st id ver := by
  unfold own alloc
  rw [List.getElem?_append_left h]
theorem add_bt {id b k i v x y : Nat} (h : (c.add id b k).bt i v = some (x, y)) : (i = id ∧ v = 0 ∧ x = b ∧ y = k) ∨ (¬ (i = id ∧ v = 0) ∧ c.bt i v = some (x, y)) := by
  simp only [Cf.add] at h
  split at h
  · rename_i e
    simp at h
    exact .inl ⟨e.1, e.2, h.1.symm, h.2.symm⟩
  · exact .inr ⟨by assumption, h⟩
theorem SR.obj {w' : World} {ob : Obj} {o : AObj} {k : Nat} (hs : SR P E c0 st0 w0 mk c st w lam bs) (g : Grew w w' ob)
    (hobj : ObjR P (c.add st.heap.length w.heap.size k) w' w.heap.size k 0 (some o)) (hver : ∀ v, (match (some o : Option AObj) with | some (.cells u _ _) => u = v | some (.frz u _) => u = v | some (.map _) => v = 0 | some (.loop ..) => v = 0 | _ => False) → v = 0 := by intro v h; exact h.symm) : SR P E c0 st0 w0 mk (c.add st.heap.length w.heap.size k) (alloc st o) w' lam bs := by
  have hle := hs.hr.le_add w.heap.size k
  have hold : ∀ i v x y, (c.add st.heap.length w.heap.size k).bt i v = some (x, y) → own (alloc st o) i v → (x = w.heap.size) ∨ (own st i v ∧ c.bt i v = some (x, y)) := by
    intro i v x y h ho
    rcases add_bt h with ⟨_, _, h3, _⟩ | ⟨_, h⟩
    · exact .inl h3
    · exact .inr ⟨(own_alloc_old (hs.hr.dom _ _ _ h)).1 ho, h⟩
  have hown : ∀ b, Owned (c.add st.heap.length w.heap.size k) (alloc st o) b → Owned c st b ∨ w.heap.size ≤ b := by
    rintro b ⟨i, v, y, ho, hb⟩
    rcases hold i v b y hb ho with h | ⟨h1, h2⟩
    · exact .inr (by omega)
    · exact .inl ⟨i, v, y, h1, h2⟩
  have hkeep : ∀ b, c.fz b → w'.heap[b]? = w.heap[b]? := fun b hb => g.old (hs.hr.fzl b hb)
  refine hs.next ⟨hle, fun b hb _ _ => g.old hb, fun b h => .inl h, hown, by rw [g.size]; omega, g.os, g.tape, g.output⟩ (fun s cs e => g.old (hs.bx s cs e).2.1)
    (fun r hr => g.old (Array.getElem?_eq_some_iff.1 (hs.md r hr).1).1) { dom := ?_, lt := ?_, obj := ?_, inj := ?_, fzo := ?_, fzl := ?_, glob := ?_, fut := ?_, tot := ?_ }
  · intro i v x h
    simp only [alloc, List.length_append, List.length_cons, List.length_nil]
    obtain ⟨x, y⟩ := x
    rcases add_bt h with ⟨h1, _⟩ | ⟨_, h⟩
    · omega
    · have := hs.hr.dom _ _ _ h; omega
  · intro i v b k' h
    rw [g.size]
    rcases add_bt h with ⟨_, _, h3, _⟩ | ⟨_, h⟩
    · omega
    · have := hs.hr.lt _ _ _ _ h; omega
  · intro i v b k' h
    rcases add_bt h with ⟨rfl, rfl, rfl, rfl⟩ | ⟨_, h⟩
    · simp only [alloc, List.getElem?_concat_length]; exact hobj
    · have hd := hs.hr.dom _ _ _ h
      simp only [alloc]
      rw [List.getElem?_append_left hd]
      exact (hs.hr.obj _ _ _ _ h).mono hle hkeep (fun _ => g.old (hs.hr.lt _ _ _ _ h))
  · intro i v i' v' b k1 k2 h1 h2 e1 e2
    rcases add_bt e1 with ⟨rfl, _, rfl, _⟩ | ⟨_, e1⟩ <;> rcases add_bt e2 with ⟨rfl, _, h3, _⟩ | ⟨_, e2⟩
    · rfl
    · have := hs.hr.lt _ _ _ _ e2; omega
    · have := hs.hr.lt _ _ _ _ e1; omega
    · exact hs.hr.inj i v i' v' b k1 k2 ((own_alloc_old (hs.hr.dom _ _ _ e1)).1 h1) ((own_alloc_old (hs.hr.dom _ _ _ e2)).1 h2) e1 e2
  · intro b hb ho
    rcases hown b ho with h | h
    · exact hs.hr.fzo b hb h
    · have := hs.hr.fzl b hb; omega
  · intro b hb
    have := hs.hr.fzl b hb
    rw [g.size]; omega
  · intro gl cs e
    obtain ⟨h1, h2⟩ := hs.hr.glob gl cs e
    exact ⟨h1, h2.mono hle hkeep (g.old (hs.hr.fzl _ h1))⟩
  · intro i v x h u gr cs ho
    obtain ⟨x, y⟩ := x
    rcases add_bt h with ⟨_, rfl, _, _⟩ | ⟨_, h⟩
    · exact Nat.zero_le _
    · have hd := hs.hr.dom _ _ _ h
      simp only [alloc] at ho
      rw [List.getElem?_append_left hd] at ho
      exact hs.hr.fut _ _ _ h _ _ _ ho
  · intro i v h
    by_cases hi : i < st.heap.length
    · have : cur st i v := by
        unfold cur alloc at h
        rw [List.getElem?_append_left hi] at h
        exact h
      obtain ⟨x, hx⟩ := hs.hr.tot i v this
      exact ⟨x, hle.1 _ _ _ hx⟩
    · by_cases hi2 : i = st.heap.length
      · subst hi2
        have : v = 0 := by
          unfold cur alloc at h
          simp only [List.getElem?_concat_length] at h
          exact hver v h
        exact ⟨(w.heap.size, k), by simp [Cf.add, this]⟩
      · have : (alloc st o).heap[i]? = none := by simp [alloc]; omega
        unfold cur at h
        rw [this] at h
        exact h.elim
theorem Cf.add_new (c : Cf) (id b k : Nat) : (c.add id b k).bt id 0 = some (b, k) := by simp [Cf.add]
end
end Go.Proofs.AM

namespace Go.Proofs.AM
open Go

/-- What an operation comes to. -/
def OpOk (P : Program) (E : Env) (c0 : Cf) (st0 : St) (w0 : World) (mk : List Nat) (c : Cf) (st : St) (w : World) (lam : Nat → Nat) (bs : Bxs) (a : Act) (o : Oper) (nl : Option Nat) (tv : TV) (bs' : Bxs) (st' : St) : Prop :=
  ∃ x w' c' lam', ((execOp a.eval o).run P w = .ok (.value x) w' ∨ (execOp a.eval o).run P w = .ok .skip w' ∧ x = undef) ∧ SR P E c0 st0 w0 mk c' st' w' lam' bs' ∧ Stp c st w lam bs c' st' w' ∧ TR c' w' lam' tv x ∧
    (lam' = lam ∨ ∃ d, nl = some d ∧ lam' = setL lam d w.heap.size)

section
variable {P : Program} {E : Env} {c0 : Cf} {st0 : St} {w0 : World} {mk : List Nat} {c : Cf} {st : St} {w : World} {lam : Nat → Nat} {bs : Bxs} {ts : List (Nat × TV)} {a : Act}

theorem Pure1.ok {o : Oper} {tv : TV} (h : Pure1 P a c w lam o tv) (hs : SR P E c0 st0 w0 mk c st w lam bs) (nl : Option Nat) : OpOk P E c0 st0 w0 mk c st w lam bs a o nl tv bs st := by
  obtain ⟨x, hr, ht⟩ := h
  exact ⟨x, w, c, lam, .inl hr, hs, (Gd.refl c st w).stp lam bs, ht, .inl rfl⟩

theorem Stp.trans {c' c'' : Cf} {st' st'' : St} {w' w'' : World} (g : Stp c st w lam bs c' st' w') (k : Stp c' st' w' lam bs c'' st'' w'') : Stp c st w lam bs c'' st'' w'' where
  le := Cf.le_trans g.le k.le
  frame b hb ho hl := by rw [k.frame b (Nat.lt_of_lt_of_le hb g.size) (fun h => (g.own b h).elim ho (fun h => by omega)) hl, g.frame b hb ho hl]
  fz b hb := by
    rcases k.fz b hb with h1 | h1 | h1
    · exact g.fz b h1
    · rcases g.own b h1 with h2 | h2
      · exact .inr (.inl h2)
      · exact .inr (.inr h2)
    · exact .inr (.inr (Nat.le_trans g.size h1))
  own b hb := (k.own b hb).elim (g.own b) (fun h => .inr (Nat.le_trans g.size h))
  size := Nat.le_trans g.size k.size
  os := k.os.trans g.os
  tape := k.tape.trans g.tape
  output := k.output.trans g.output
theorem Stp.frz {b : Nat} (h : w.heap.size ≤ b) {w' : World} {o : Obj} (g : Grew w w' o) : Stp c st w lam bs (c.frz b) st w' where
  le := c.le_frz b
  frame x hx _ _ := g.old hx
  fz x hx := hx.elim .inl (fun e => .inr (.inr (e ▸ h)))
  own x hx := .inl hx
  size := by rw [g.size]; omega
  os := g.os
  tape := g.tape
  output := g.output
theorem Stp.obj {w' : World} {ob : Obj} {o : AObj} {k : Nat} (hs : SR P E c0 st0 w0 mk c st w lam bs) (g : Grew w w' ob) : Stp c st w lam bs (c.add st.heap.length w.heap.size k) (alloc st o) w' where
  le := hs.hr.le_add w.heap.size k
  frame x hx _ _ := g.old hx
  fz x hx := .inl hx
  own := by
    rintro b ⟨i, v, y, ho, hb⟩
    rcases add_bt hb with ⟨_, _, h3, _⟩ | ⟨_, h⟩
    · exact .inr (by omega)
    · exact .inl ⟨i, v, y, (own_alloc_old (hs.hr.dom _ _ _ h)).1 ho, h⟩
  size := by rw [g.size]; omega
  os := g.os
  tape := g.tape
  output := g.output

/-- A new box. -/
theorem newBox_ok (hs : SR P E c0 st0 w0 mk c st w lam bs) {o : Oper} {lc : Bool} {d : Nat} {cs : List AV} {vs : List Value} {e : TypeId} (hl : CL c w cs vs) (hr : (execOp a.eval o).run P w = .ok (.value (.pointer (some ⟨w.heap.size, 0, none⟩))) (w.alloc (.cells vs.toArray e))) :
    OpOk P E c0 st0 w0 mk c st w lam bs a o (if lc then some d else none) (newBox lc d cs bs st).1 (newBox lc d cs bs st).2.1 (newBox lc d cs bs st).2.2 := by
  have g := Grew.alloc w (.cells vs.toArray e)
  cases lc with
  | true =>
    refine ⟨_, _, c, setL lam d w.heap.size, .inl hr, hs.box hl g d, Stp.grew g, ?_, .inr ⟨d, rfl, rfl⟩⟩
    have : (setL lam d w.heap.size) d = w.heap.size := by simp [setL]
    simp only [newBox, if_true]
    have h2 := TR.loc (c := c) (w := w.alloc (.cells vs.toArray e)) (lam := setL lam d w.heap.size) d 0
    rw [this] at h2
    exact h2
  | false =>
    have hle := hs.hr.le_add w.heap.size 0
    have hk : ∀ b, c.fz b → (w.alloc (.cells vs.toArray e)).heap[b]? = w.heap[b]? := fun b hb => g.old (hs.hr.fzl b hb)
    refine ⟨_, _, c.add st.heap.length w.heap.size 0, lam, .inl hr, hs.obj g (fun _ => ⟨⟨_, e, g.new, vs, [], by simp, hl.mono hle hk⟩, trivial⟩), Stp.obj hs g, .v (.ref _ _ _ _ 0 (c.add_new _ _ _)), .inl rfl⟩

theorem sim_new (hs : SR P E c0 st0 w0 mk c st w lam bs) {o : Oper} {lc : Bool} {zero : List AV} {d : Nat} (hok : okOp P (.new lc zero) o.op = true) :
    OpOk P E c0 st0 w0 mk c st w lam bs a o (if lc then some d else none) (newBox lc d zero bs st).1 (newBox lc d zero bs st).2.1 (newBox lc d zero bs st).2.2 := by
  cases ho : o.op <;> rw [ho] at hok <;> simp [okOp] at hok
  rename_i t
  obtain ⟨z, hz, hzv⟩ := zeroIs_run hok
  refine newBox_ok hs (e := t) (okVs_CL hzv) ?_
  simp [execOp, ho, Instr.alloc, hz, newVar, newRow]
theorem sim_box (hs : SR P E c0 st0 w0 mk c st w lam bs) (hts : TS c w lam ts a.tmps) {o : Oper} {lc : Bool} {x : AX} {d : Nat} (hok : okOp P (.box lc x) o.op = true) {v : AV} (hv : rdV ts x = some v) {cs : List AV} (hc : v.cells = some cs) :
    OpOk P E c0 st0 w0 mk c st w lam bs a o (if lc then some d else none) (newBox lc d cs bs st).1 (newBox lc d cs bs st).2.1 (newBox lc d cs bs st).2.2 := by
  cases ho : o.op <;> rw [ho] at hok <;> simp [okOp] at hok
  rename_i t y
  refine newBox_ok hs (e := t) ((rdV_VR hts hok hv).cells hc) ?_
  simp [execOp, ho, Instr.box, newVar, newRow]

theorem sim_bslice (hs : SR P E c0 st0 w0 mk c st w lam bs) (hts : TS c w lam ts a.tmps) {o : Oper} {pure' : Bool} {es len : Nat} {zero : List AV} {ps : List (Nat × Nat × AX)} (hok : okOp P (.bslice pure' es len zero ps) o.op = true) {cs : List AV} (h : fillA ts zero ps = some cs) (nl : Option Nat) :
    OpOk P E c0 st0 w0 mk c st w lam bs a o nl (if pure' then .v (.lst (some false) true len cs) else .v (.sl es st.heap.length 0 0 len (some len))) bs (if pure' then st else alloc st (.cells 0 none cs)) := by
  cases ho : o.op <;> rw [ho] at hok <;> simp [okOp] at hok
  rename_i t n qs
  obtain ⟨rfl, hok⟩ := hok
  split at hok
  · rename_i e hu
    split at hok
    · rename_i i hi
      simp only [Bool.and_eq_true, decide_eq_true_eq, beq_iff_eq] at hok
      obtain ⟨⟨⟨rfl, hle⟩, hlen⟩, hok⟩ := hok
      split at hok
      · rename_i z hz
        simp only [Bool.and_eq_true] at hok
        obtain ⟨hzero, hps⟩ := hok
        obtain ⟨zs, hzs, hzl⟩ : ∃ zs : Array Value, ((if len * i.size = 0 then pure #[] else do pure (← zeroValue e).cells : Sem (Array Value)).run P w = .ok zs w) ∧ CL c w zero ((Array.range (len * i.size)).map (zs[· % zs.size]!)).toList := by
          rcases Bool.or_eq_true_iff.1 hzero with h1 | h1
          · simp only [Bool.and_eq_true, beq_iff_eq, List.isEmpty_iff] at h1
            obtain ⟨h1, rfl⟩ := h1
            exact ⟨#[], by rw [if_pos h1]; rfl, by rw [h1]; simpa using CL.nil c w⟩
          · simp only [Bool.and_eq_true] at h1
            by_cases h0 : len * i.size = 0
            · refine ⟨#[], by rw [if_pos h0]; rfl, ?_⟩
              rw [h0] at h1 ⊢
              have := okVs_CL (c := c) (w := w) h1.2
              simpa using this
            · exact ⟨z.cells, by rw [if_neg h0]; simp [zeroValue, typeInfo, hi, hz], by have := okVs_CL (c := c) (w := w) h1.2; simpa using this⟩
        obtain ⟨us, hf, hus⟩ := fill_spec hts hps h hzl
        have hmap : ∀ (qs : Array (Nat × Operand)), (qs.map fun q => (q.1, a.eval q.2)).toList = qs.toList.map fun q => (q.1, a.eval q.2) := fun qs => by simp
        have hrun : (execOp a.eval o).run P w = .ok (.value (.slice (some ⟨w.heap.size, 0, none⟩) len len)) (w.alloc (.cells us.toArray e)) := by
          simp only [execOp, ho, Instr.buildSlice, Sem.run_bind, run_underlying hu, Result.andThen_ok, Go.sizeOf, typeInfo, run_program, hi, Sem.run_pure]
          rw [if_neg (by omega)]
          have e1 : (((Array.range (len * i.size)).map (zs[· % zs.size]!)).toList).toArray = (Array.range (len * i.size)).map (zs[· % zs.size]!) := Array.toArray_toList
          rw [e1] at hf
          by_cases hz0 : len * i.size = 0
          · rw [if_pos hz0] at hzs ⊢
            simp only [Sem.run_pure, Result.ok.injEq, and_true] at hzs
            subst hzs
            simp only [Sem.run_bind, Sem.run_pure, Result.andThen_ok]
            rw [hmap, hf]
            simp [newRow]
          · rw [if_neg hz0] at hzs ⊢
            have hzs' : (do let z ← zeroValue e; let zero ← pure z.cells; pure zero : Sem (Array Value)).run P w = .ok zs w := by simpa using hzs
            simp only [Sem.run_bind, Sem.run_pure] at hzs' ⊢
            cases hq : (zeroValue e).run P w with
            | ok z' w' =>
              rw [hq] at hzs'
              simp only [Result.andThen_ok, Result.ok.injEq] at hzs' ⊢
              obtain ⟨rfl, rfl⟩ := hzs'
              rw [hmap, hf]
              simp [newRow]
            | _ => rw [hq] at hzs'; simp at hzs'
        have g := Grew.alloc w (.cells us.toArray e)
        have hmx : len ≤ maxLen := by unfold maxLen; omega
        cases pure' with
        | true =>
          simp only [if_true]
          have hs1 := hs.grew g
          have hs2 : SR P E c0 st0 w0 mk (c.frz w.heap.size) st (w.alloc (.cells us.toArray e)) lam bs :=
            hs1.frz (by rw [g.size]; omega) hs.gd.size (fun ⟨id, ver, k, _, hb⟩ => by have := hs.hr.lt _ _ _ _ hb; omega) (fun s cs e => by have := (hs.bx s cs e).2.1; omega) (fun hr => by have := (Array.getElem?_eq_some_iff.1 (hs.md _ hr).1).1; omega)
          refine ⟨_, _, c.frz w.heap.size, lam, .inl hrun, hs2, Stp.frz (Nat.le_refl _) g, .v ?_, .inl rfl⟩
          have hcl : CL (c.frz w.heap.size) (w.alloc (.cells us.toArray e)) cs us := hus.mono (c.le_frz _) (fun b hb => g.old (hs.hr.fzl b hb))
          refine VR.mk_lst (by simp) (Nat.le_refl _) hmx (fun _ => rfl) (fun _ => rfl) (fun q hq => ?_) (by simp)
          cases hq
          exact ⟨fun _ => .inr rfl, by simpa using Reads.of_blk (c := c.frz w.heap.size) (vs := us) (rest := []) g.new (by simp) hcl 0⟩
        | false =>
          simp only [Bool.false_eq_true, if_false]
          have hle := hs.hr.le_add w.heap.size len
          have hk : ∀ b, c.fz b → (w.alloc (.cells us.toArray e)).heap[b]? = w.heap[b]? := fun b hb => g.old (hs.hr.fzl b hb)
          exact ⟨_, _, c.add st.heap.length w.heap.size len, lam, .inl hrun, hs.obj g (fun _ => ⟨⟨_, e, g.new, us, [], by simp, hus.mono hle hk⟩, trivial⟩), Stp.obj hs g, .v (VR.mk_sl (c.add_new _ _ _) (Nat.le_refl _) hmx), .inl rfl⟩
      · cases hok
    · cases hok
  · cases hok

theorem sim_mkm (hs : SR P E c0 st0 w0 mk c st w lam bs) {o : Oper} (hok : okOp P .mkm o.op = true) (nl : Option Nat) : OpOk P E c0 st0 w0 mk c st w lam bs a o nl (.v (.map st.heap.length)) bs (alloc st (.map [])) := by
  cases ho : o.op <;> rw [ho] at hok <;> simp [okOp] at hok
  rename_i t r
  cases r with
  | some _ => cases hok
  | none =>
    have hrun : (execOp a.eval o).run P w = .ok (.value (.map (some w.heap.size))) (w.alloc (.map #[] 0)) := by simp [execOp, ho, Instr.makeMap]
    have g := Grew.alloc w (.map #[] 0)
    exact ⟨_, _, c.add st.heap.length w.heap.size 0, lam, .inl hrun, hs.obj g (fun _ => ⟨[], 0, g.new, rfl, by simp⟩) (fun _ h => h), Stp.obj hs g, .v (.map _ _ 0 (c.add_new _ _ _)), .inl rfl⟩

theorem range_map_flatten (z : List Value) : ∀ n : Nat, (Array.range (n * z.length)).toList.map (fun j => z.toArray[j % z.toArray.size]!) = (List.replicate n z).flatten := by
  intro n
  induction n with
  | zero => simp
  | succ n ih =>
    have e : (n + 1) * z.length = n * z.length + z.length := by rw [Nat.add_mul]; omega
    rw [e, List.replicate_succ', List.flatten_append, ← ih]
    simp only [Array.toList_range, List.range_add, List.map_append, List.map_map, List.flatten_cons, List.flatten_nil, List.append_nil]
    congr 1
    apply List.ext_getElem
    · simp
    · intro i h1 h2
      simp only [List.getElem_map, List.getElem_range, Function.comp, List.size_toArray]
      have hi : i < z.length := by simpa using h1
      have : (n * z.length + i) % z.length = i := by rw [Nat.mul_comm, Nat.mul_add_mod, Nat.mod_eq_of_lt hi]
      rw [this]
      simp [getElem!_pos, hi]
theorem sim_mks (hs : SR P E c0 st0 w0 mk c st w lam bs) (hts : TS c w lam ts a.tmps) {o : Oper} {lc : Bool} {d es bytes : Nat} {zero : List AV} {x y : AX} (hok : okOp P (.mks lc es bytes zero x y) o.op = true) {n k : Int} (hn : rdI ts x = some n) (hk : rdI ts y = some k) (h0 : 0 ≤ n) (h1 : n ≤ k)
    (hb : k * bytes ≤ room) (hr : k ≤ room) : OpOk P E c0 st0 w0 mk c st w lam bs a o (if lc then some d else none) (if lc then .lsl d es n.toNat k.toNat else .v (.sl es st.heap.length 0 0 n.toNat (some k.toNat)))
      (if lc then (d, (List.replicate k.toNat zero).flatten) :: bs else bs) (if lc then st else alloc st (.cells 0 none ((List.replicate k.toNat zero).flatten))) := by
  cases ho : o.op <;> rw [ho] at hok <;> simp [okOp] at hok
  rename_i t x' y'
  obtain ⟨⟨hx, hy⟩, hok⟩ := hok
  obtain ⟨k1, e1⟩ := rdI_int hts hx hn
  obtain ⟨k2, e2⟩ := rdI_int hts hy hk
  split at hok
  · rename_i e hu
    split at hok
    · rename_i i hi
      simp only [Bool.and_eq_true, beq_iff_eq, decide_eq_true_eq] at hok
      obtain ⟨⟨⟨⟨rfl, rfl⟩, hz⟩, hzl⟩, hpos⟩ := hok
      obtain ⟨z, hzr, hzv⟩ := zeroIs_run hz
      have hcl := okVs_CL (c := c) (w := w) hzv
      have hzlen : z.cells.toList.length = i.size := by rw [hcl.len, hzl]
      have hrm : room = 70368744177664 := rfl
      have hkn : k ≤ 9223372036854775807 := by omega
      have w1 : IntKind.i64.wrap n = n := IntWalk.i64_in _ (by omega)
      have w2 : IntKind.i64.wrap k = k := IntWalk.i64_in _ (by omega)
      obtain ⟨vs, hvs, hvcl⟩ : ∃ vs : List Value, (Array.range (k.toNat * i.size)).map (z.cells[· % z.cells.size]!) = vs.toArray ∧ CL c w ((List.replicate k.toNat zero).flatten) vs := by
        refine ⟨(List.replicate k.toNat z.cells.toList).flatten, ?_, ?_⟩
        · have := range_map_flatten z.cells.toList k.toNat
          rw [hzlen] at this
          apply Array.ext'
          rw [Array.toList_map]
          simpa using this
        · have : ∀ m : Nat, CL c w ((List.replicate m zero).flatten) ((List.replicate m z.cells.toList).flatten) := by
            intro m
            induction m with
            | zero => exact CL.nil c w
            | succ m ih => simp only [List.replicate_succ, List.flatten_cons]; exact hcl.append ih
          exact this _
      have hbytes : (i.bytes : Int) * k ≤ 281474976710656 := by rw [Int.mul_comm]; omega
      have hrun : (execOp a.eval o).run P w = .ok (.value (.slice (some ⟨w.heap.size, 0, none⟩) n.toNat k.toNat)) (w.alloc (.cells vs.toArray e)) := by
        simp only [execOp, ho, Instr.makeSlice, Sem.run_bind, run_underlying hu, Result.andThen_ok, asInt, e1, e2, asIntOf, Sem.run_pure, typeInfo, run_program, hi, w1, w2]
        have c1 : ¬ ((decide (k < 0) || decide ((i.bytes : Int) * k > 2 ^ 48)) = true ∨ n < 0 ∨ n > k) := by simp; omega
        rw [if_neg (by simpa [or_assoc] using c1)]
        simp only [Sem.run_bind, run_askRoom, Result.andThen_ok, Go.sizeOf, typeInfo, run_program, hi, Sem.run_pure]
        by_cases hk0 : k.toNat * i.size = 0
        · rw [if_pos hk0]
          have : vs = [] := by
            have := congrArg Array.size hvs
            rw [hk0] at this
            simpa using this.symm
          subst this
          simp only [hk0, Sem.run_pure, Result.andThen_ok, newRow, Sem.run_bind, run_newObj]
          have e0 : ∀ f : Nat → Value, (Array.range 0).map f = #[] := fun f => by simp
          simp [e0]
        · rw [if_neg hk0]
          simp only [Sem.run_bind, hzr, Sem.run_pure, Result.andThen_ok, hvs]
          simp [newRow]
      have g := Grew.alloc w (.cells vs.toArray e)
      have hle := hs.hr.le_add w.heap.size k.toNat
      have hkp : ∀ b, c.fz b → (w.alloc (.cells vs.toArray e)).heap[b]? = w.heap[b]? := fun b hb => g.old (hs.hr.fzl b hb)
      cases lc with
      | true =>
        simp only [if_true]
        refine ⟨_, _, c, setL lam d w.heap.size, .inl hrun, hs.box hvcl g d, Stp.grew g, ?_, .inr ⟨d, rfl, rfl⟩⟩
        have h2 := TR.lsl (c := c) (w := w.alloc (.cells vs.toArray e)) (lam := setL lam d w.heap.size) d i.size n.toNat k.toNat (by omega) (by unfold maxLen; omega)
        rw [show (setL lam d w.heap.size) d = w.heap.size by simp [setL]] at h2
        exact h2
      | false =>
      simp only [Bool.false_eq_true, if_false]
      exact ⟨_, _, c.add st.heap.length w.heap.size k.toNat, lam, .inl hrun, hs.obj g (fun _ => ⟨⟨_, e, g.new, vs, [], by simp, hvcl.mono hle hkp⟩, trivial⟩), Stp.obj hs g, .v (VR.mk_sl (c.add_new _ _ _) (by omega) (by unfold maxLen; omega)), .inl rfl⟩
    · cases hok
  · cases hok
end
end Go.Proofs.AM

namespace Go.Proofs.AM
open Go

section
variable {P : Program} {E : Env} {c0 : Cf} {st0 : St} {w0 : World} {mk : List Nat} {c : Cf} {st : St} {w : World} {lam : Nat → Nat} {bs : Bxs} {ts : List (Nat × TV)} {a : Act}

theorem own_inj {id u v : Nat} (h : own st id u) (k : own st id v) : u = v := by
  unfold own at h k
  split at h <;> simp_all
def Cf.put (c : Cf) (id v b k : Nat) : Cf := { c with bt := fun i v' => if i = id ∧ v' = v then some (b, k) else c.bt i v' }
theorem put_bt {id v b k i u x y : Nat} (h : (c.put id v b k).bt i u = some (x, y)) : (i = id ∧ u = v ∧ x = b ∧ y = k) ∨ (¬ (i = id ∧ u = v) ∧ c.bt i u = some (x, y)) := by
  simp only [Cf.put] at h
  split at h
  · rename_i e
    simp at h
    exact .inl ⟨e.1, e.2, h.1.symm, h.2.symm⟩
  · exact .inr ⟨by assumption, h⟩
theorem Cf.put_new (c : Cf) (id v b k : Nat) : (c.put id v b k).bt id v = some (b, k) := by simp [Cf.put]
theorem Cf.put_self {id v b k : Nat} (h : c.bt id v = some (b, k)) : c.put id v b k = c := by
  unfold Cf.put
  have : (fun i v' => if i = id ∧ v' = v then some (b, k) else c.bt i v') = c.bt := by
    funext i v'
    split
    · rename_i e; rw [e.1, e.2, h]
    · rfl
  rw [this]
theorem Cf.le_put {id v b k : Nat} (h : c.bt id v = none ∨ c.bt id v = some (b, k)) : c.le (c.put id v b k) := by
  refine ⟨fun i u x e => ?_, fun _ h => h⟩
  simp only [Cf.put]
  split
  · rename_i e'
    rw [e'.1, e'.2] at e
    rcases h with h | h
    · rw [h] at e; cases e
    · rw [h] at e; exact e
  · exact e
theorem own_mods {o : AObj} {id i v : Nat} (h : i ≠ id) : own (mods st id o) i v ↔ own st i v := by
  unfold own mods
  simp only [List.getElem?_set_ne (Ne.symm h)]
theorem SR.wr {w' : World} {id ver b k ver' b' k' : Nat} {o : AObj} (hs : SR P E c0 st0 w0 mk c st w lam bs) (hw : own st id ver) (hb : c.bt id ver = some (b, k))
    (hv : c.bt id ver' = none ∨ c.bt id ver' = some (b', k')) (hb' : b' = b ∨ w.heap.size ≤ b') (hlt : b' < w'.heap.size) (hx : ∀ x, x < w.heap.size → x ≠ b → w'.heap[x]? = w.heap[x]?) (hsz : w.heap.size ≤ w'.heap.size)
    (hos : w'.os = w.os) (htape : w'.tape = w.tape) (hout : w'.output = w.output) (hown : ∀ v, own (mods st id o) id v ↔ v = ver') (hobj : ObjR P (c.put id ver' b' k') w' b' k' ver' (some o))
    (hfut : ∀ u gr cs, o = .cells u gr cs → ∀ v x, c.bt id v = some x → v ≤ ver') :
    SR P E c0 st0 w0 mk (c.put id ver' b' k') (mods st id o) w' lam bs ∧ Stp c st w lam bs (c.put id ver' b' k') (mods st id o) w' := by
  have hle := Cf.le_put hv
  have hid : id < st.heap.length := hs.hr.dom _ _ _ hb
  have hOb : Owned c st b := ⟨id, ver, k, hw, hb⟩
  have hself : (mods st id o).heap[id]? = some o := by simp [mods, hid]
  have hoth : ∀ i, i ≠ id → (mods st id o).heap[i]? = st.heap[i]? := fun i hi => by simp only [mods]; rw [List.getElem?_set_ne (Ne.symm hi)]
  have hO : ∀ x, Owned (c.put id ver' b' k') (mods st id o) x → Owned c st x ∨ w.heap.size ≤ x := by
    rintro x ⟨i, v, y, ho, hbt⟩
    by_cases hi : i = id
    · subst hi
      rw [(hown v).1 ho, Cf.put_new] at hbt
      simp at hbt
      rcases hb' with h | h
      · exact .inl (hbt.1 ▸ h ▸ hOb)
      · exact .inr (hbt.1 ▸ h)
    · rcases put_bt hbt with ⟨h, _⟩ | ⟨_, h⟩
      · exact absurd h hi
      · exact .inl ⟨i, v, y, (own_mods hi).1 ho, h⟩
  have hfr : ∀ x, x < w.heap.size → ¬ Owned c st x → w'.heap[x]? = w.heap[x]? := fun x h1 h2 => hx x h1 (fun e => h2 (e ▸ hOb))
  have g : Stp c st w lam bs (c.put id ver' b' k') (mods st id o) w' := ⟨hle, fun x h1 h2 _ => hfr x h1 h2, fun x h => .inl h, hO, hsz, hos, htape, hout⟩
  have hkeep : ∀ x, c.fz x → w'.heap[x]? = w.heap[x]? := hs.keep g
  refine ⟨hs.next g (fun s cs e => let ⟨_, h2, _, h4, _⟩ := hs.bx s cs e; hfr _ h2 h4) (fun r hr => let ⟨h1, _, _, h4, _⟩ := hs.md r hr; hfr r (Array.getElem?_eq_some_iff.1 h1).1 h4)
    { dom := ?_, lt := ?_, obj := ?_, inj := ?_, fzo := ?_, fzl := ?_, glob := ?_, fut := ?_, tot := ?_ }, g⟩
  · intro i v x h
    simp only [mods, List.length_set]
    obtain ⟨x, y⟩ := x
    rcases put_bt h with ⟨h1, _⟩ | ⟨_, h⟩
    · omega
    · exact hs.hr.dom _ _ _ h
  · intro i v x y h
    rcases put_bt h with ⟨_, _, h3, _⟩ | ⟨_, h⟩
    · omega
    · have := hs.hr.lt _ _ _ _ h; omega
  · intro i v x y h
    rcases put_bt h with ⟨rfl, rfl, rfl, rfl⟩ | ⟨hne, h⟩
    · rw [hself]; exact hobj
    · by_cases hi : i = id
      · subst hi
        rw [hself]
        have hno : ¬ own (mods st i o) i v := fun ho => hne ⟨rfl, (hown v).1 ho⟩
        have hyes : own (mods st i o) i ver' := (hown ver').2 rfl
        unfold own at hno hyes
        rw [hself] at hno hyes
        cases o with
        | cells u gr cs => exact fun e => absurd e.symm (fun e => hno e.symm)
        | frz u cs => exact hyes.elim
        | map es => exact fun e => absurd e hno
        | loop _ _ _ _ _ => exact fun e => absurd e hno
        | gone => trivial
      · rw [hoth i hi]
        refine (hs.hr.obj _ _ _ _ h).mono hle hkeep (fun ho => hx x (hs.hr.lt _ _ _ _ h) (fun e => ?_))
        subst e
        exact hi (hs.hr.inj _ _ _ _ _ _ _ ho hw h hb)
  · intro i v i' v' x k1 k2 h1 h2 e1 e2
    by_cases hi : i = id <;> by_cases hi' : i' = id
    · rw [hi, hi']
    · exfalso
      subst hi
      rw [(hown v).1 h1, Cf.put_new] at e1
      simp at e1
      rcases put_bt e2 with ⟨h, _⟩ | ⟨_, e2⟩
      · exact hi' h
      · rcases hb' with hb' | hb'
        · rw [← e1.1, hb'] at e2
          exact hi' (hs.hr.inj _ _ _ _ _ _ _ ((own_mods hi').1 h2) hw e2 hb)
        · have := hs.hr.lt _ _ _ _ e2; omega
    · exfalso
      subst hi'
      rw [(hown v').1 h2, Cf.put_new] at e2
      simp at e2
      rcases put_bt e1 with ⟨h, _⟩ | ⟨_, e1⟩
      · exact hi h
      · rcases hb' with hb' | hb'
        · rw [← e2.1, hb'] at e1
          exact hi (hs.hr.inj _ _ _ _ _ _ _ ((own_mods hi).1 h1) hw e1 hb)
        · have := hs.hr.lt _ _ _ _ e1; omega
    · rcases put_bt e1 with ⟨h, _⟩ | ⟨_, e1⟩
      · exact absurd h hi
      · rcases put_bt e2 with ⟨h, _⟩ | ⟨_, e2⟩
        · exact absurd h hi'
        · exact hs.hr.inj _ _ _ _ _ _ _ ((own_mods hi).1 h1) ((own_mods hi').1 h2) e1 e2
  · intro x hf ho
    rcases hO x ho with h | h
    · exact hs.hr.fzo x hf h
    · have := hs.hr.fzl x hf; omega
  · intro x hf
    have := hs.hr.fzl x hf; omega
  · intro gl cs e
    obtain ⟨h1, h2⟩ := hs.hr.glob gl cs e
    exact ⟨h1, h2.mono hle hkeep (hkeep _ h1)⟩
  · intro i v x h u gr cs ho
    obtain ⟨x, y⟩ := x
    by_cases hi : i = id
    · subst hi
      rw [hself] at ho
      simp at ho
      have hu : u = ver' := by
        have := (hown ver').2 rfl
        unfold own at this
        rw [hself, ho] at this
        exact this
      rcases put_bt h with ⟨_, h, _⟩ | ⟨_, h⟩
      · omega
      · have := hfut _ _ _ ho v _ h; omega
    · rw [hoth i hi] at ho
      rcases put_bt h with ⟨h, _⟩ | ⟨_, h⟩
      · exact absurd h hi
      · exact hs.hr.fut _ _ _ h _ _ _ ho
  · intro i v h
    by_cases hi : i = id
    · subst hi
      have : v = ver' := by
        have h1 := (hown ver').2 rfl
        unfold cur at h
        unfold own at h1
        rw [hself] at h h1
        cases o <;> simp_all
      exact ⟨(b', k'), by rw [this]; exact c.put_new _ _ _ _⟩
    · have : cur st i v := by
        unfold cur at h ⊢
        rw [hoth i hi] at h
        exact h
      obtain ⟨x, hx⟩ := hs.hr.tot i v this
      exact ⟨x, hle.1 _ _ _ hx⟩
/-- A box is written. -/
theorem SR.stbox {w' : World} {s : Nat} {cs new : List AV} (hs : SR P E c0 st0 w0 mk c st w lam bs) (hb : lookB s bs = some cs) (hx : ∀ x, x ≠ lam s → w'.heap[x]? = w.heap[x]?) (hsz : w'.heap.size = w.heap.size)
    (hos : w'.os = w.os) (htape : w'.tape = w.tape) (hout : w'.output = w.output) (hnew : BlkR c w' (lam s) new) : SR P E c0 st0 w0 mk c st w' lam ((s, new) :: bs) ∧ Stp c st w lam bs c st w' := by
  obtain ⟨h1, h2, h3, h4, h5⟩ := hs.bx s cs hb
  have g : Stp c st w lam bs c st w' := ⟨Cf.le_refl c, fun x _ _ h => hx x (fun e => h s cs hb e.symm), fun x h => .inl h, fun x h => .inl h, by omega, hos, htape, hout⟩
  have hk : ∀ b, c.fz b → w'.heap[b]? = w.heap[b]? := hs.keep g
  refine ⟨{ hr := ?_, gd := hs.gd' g, bx := ?_, bd := ?_, md := ?_ }, g⟩
  · exact
      { dom := hs.hr.dom, lt := fun id ver b k e => by have := hs.hr.lt id ver b k e; omega, inj := hs.hr.inj, fzo := hs.hr.fzo, fzl := fun b h => by have := hs.hr.fzl b h; omega, fut := hs.hr.fut, tot := hs.hr.tot
        obj := fun id ver b k e => (hs.hr.obj id ver b k e).mono (Cf.le_refl c) hk (fun ho => hx b (fun e' => h4 ⟨id, ver, k, ho, e' ▸ e⟩))
        glob := fun g cs e => ⟨(hs.hr.glob g cs e).1, (hs.hr.glob g cs e).2.mono (Cf.le_refl c) hk (hk _ (hs.hr.glob g cs e).1)⟩ }
  · intro s' x hx'
    rcases lookB_cons hx' with ⟨rfl, rfl⟩ | ⟨hne, hx'⟩
    · exact ⟨h1, by omega, h3, h4, hnew⟩
    · obtain ⟨k1, k2, k3, k4, k5⟩ := hs.bx s' x hx'
      exact ⟨k1, by omega, k3, k4, k5.mono (Cf.le_refl c) hk (hx _ (fun e => hne (hs.bd _ _ _ _ hx' hb e)))⟩
  · intro s1 s2 x1 x2 hx1 hx2 he
    rcases lookB_cons hx1 with ⟨e1, _⟩ | ⟨n1, y1⟩ <;> rcases lookB_cons hx2 with ⟨e2, _⟩ | ⟨n2, y2⟩
    · rw [e1, e2]
    · rw [e1] at he ⊢; exact hs.bd _ _ _ _ hb y2 he
    · rw [e2] at he ⊢; exact hs.bd _ _ _ _ y1 hb he
    · exact hs.bd _ _ _ _ y1 y2 he
  · intro r hr
    obtain ⟨m1, m2, m3, m4, m5⟩ := hs.md r hr
    refine ⟨(hx r (fun e => m5 s cs hb e.symm)).trans m1, m2, m3, m4, fun s' x hx' => ?_⟩
    rcases lookB_cons hx' with ⟨rfl, _⟩ | ⟨_, hx'⟩
    · exact m5 _ cs hb
    · exact m5 s' x hx'
theorem CL.splice {cs new : List AV} {vs us : List Value} (h : CL c w cs vs) (k : CL c w new us) (off : Nat) : CL c w (splice cs off new) (vs.take off ++ us ++ vs.drop (off + us.length)) := by
  unfold AM.splice
  rw [k.len]
  exact ((h.take off).append k).append (h.drop _)
/-- Cells are written into a block. -/
theorem run_storeVar_blk {t : TypeId} {n b off : Nat} {cs : List AV} {new : List AV} {x : Value} (hsz : sizeIs P t n = true) (hB : BlkR c w b cs) (hx : CL c w new x.cells.toList) (hn : new.length = n) (hoff : off + n ≤ cs.length) :
    ∃ cur, (storeVar t ⟨b, off, none⟩ x).run P w = .ok () (w.setRow b cur) ∧ (∀ c' : Cf, c.le c' → (∀ y, c.fz y → (w.setRow b cur).heap[y]? = w.heap[y]?) → BlkR c' (w.setRow b cur) b (splice cs off new)) ∧
      ∀ (old : Array Value) (e : TypeId), w.heap[b]? = some (.cells old e (0, 0)) → cur.size = old.size := by
  obtain ⟨cur, e, hh, vs, rest, hc, hl⟩ := hB
  have hxl := hx.len
  have hxs : x.cells.size = x.cells.toList.length := by simp
  have hvl := hl.len
  have h1 := run_storeCells_at P b off e x.cells.toList 0 cur w hh (by rw [hc]; simp only [List.size_toArray, List.length_append]; omega) (hx.one)
  simp only [Nat.add_zero] at h1
  refine ⟨_, by
    simp only [storeVar, Sem.run_bind, run_sizeOf hsz, Result.andThen_ok]
    rw [if_neg (by omega)]
    simpa using h1, ?_, ?_⟩
  · intro c' hle hk
    refine ⟨_, e, setRow_heap w b cur _ e _ hh, vs.take off ++ x.cells.toList ++ vs.drop (off + x.cells.toList.length), rest, ?_, (hl.splice hx off).mono hle hk⟩
    rw [hc]
    simp only [List.append_assoc, hxs]
    congr 1
    rw [List.take_append_of_le_length (by omega), List.drop_append_of_le_length (by omega)]
  · intro old e' ho
    rw [hh] at ho
    simp at ho
    obtain ⟨rfl, rfl⟩ := ho
    have : cur.size = vs.length + rest.length := by rw [hc]; simp
    simp only [List.size_toArray, List.length_append, List.length_take, List.length_drop, Array.length_toList]
    omega
theorem sim_store (hs : SR P E c0 st0 w0 mk c st w lam bs) (hts : TS c w lam ts a.tmps) {o : Oper} {n : Nat} {x y : AX} (hok : okOp P (.store n x y) o.op = true) {p : TV} (hp : rdT ts x = some p) {v : AV} (hv : rdV ts y = some v)
    {bs' : Bxs} {st' : St} (h : storeA n p v bs st = some (bs', st')) (nl : Option Nat) : OpOk P E c0 st0 w0 mk c st w lam bs a o nl .und bs' st' := by
  cases ho : o.op <;> rw [ho] at hok <;> simp [okOp] at hok
  rename_i t x' y'
  obtain ⟨⟨hx, hy⟩, hsz⟩ := hok
  have hpr := rdT_TR hts hx hp
  have hvr := rdV_VR hts hy hv
  unfold storeA at h
  split at h
  · rename_i new hnew
    have hcl := hvr.cells hnew
    split at h
    · rename_i hlen
      split at h
      · rename_i s off
        split at h
        · rename_i cs hb
          split at h
          · rename_i hle
            simp at h
            obtain ⟨rfl, rfl⟩ := h
            obtain ⟨b1, b2, b3, b4, b5⟩ := hs.bx _ _ hb
            obtain ⟨cur, hr, hB, _⟩ := run_storeVar_blk (P := P) hsz b5 hcl hlen hle
            generalize hz : a.eval x' = z at hpr
            cases hpr with
            | loc s' off' =>
            have hk : ∀ y, c.fz y → (w.setRow (lam s) cur).heap[y]? = w.heap[y]? := fun y hy => setRow_other w _ y cur (fun e => b3 (e ▸ hy))
            obtain ⟨hs', g⟩ := hs.stbox hb (w' := w.setRow (lam s) cur) (fun x hx => setRow_other w _ x cur hx) (setRow_size _ _ _) rfl rfl rfl (hB c (Cf.le_refl c) hk)
            exact ⟨undef, _, c, lam, .inr ⟨by simp [execOp, ho, Instr.storeAt, Instr.sureAddr, hz, hr], rfl⟩, hs', g, .und, .inl rfl⟩
          · cases h
        · cases h
      · rename_i id ver off
        split at h
        · rename_i u gr cs hob
          split at h
          · rename_i hle
            simp at h
            obtain ⟨rfl, rfl⟩ := h
            obtain ⟨rfl, hle⟩ := hle
            generalize hz : a.eval x' = z at hpr
            cases hpr with
            | v hpr =>
            cases hpr with
            | ref _ _ _ b k hb =>
            have hobj := hs.hr.obj _ _ _ _ hb
            rw [hob] at hobj
            obtain ⟨hB, hG⟩ := hobj rfl
            have hwn : own st id u := by unfold own; rw [hob]
            obtain ⟨cur, hr, hB', hcs⟩ := run_storeVar_blk (P := P) hsz hB hcl hlen hle
            have hfz : ¬ c.fz b := fun h => hs.hr.fzo b h ⟨id, u, k, hwn, hb⟩
            have hk : ∀ y, c.fz y → (w.setRow b cur).heap[y]? = w.heap[y]? := fun y hy => setRow_other w _ y cur (fun e => hfz (e ▸ hy))
            have hgr : GrowR (w.setRow b cur) b k gr := by
              cases gr with
              | none => trivial
              | some q =>
                obtain ⟨e, es⟩ := q
                obtain ⟨g0, cur', hh, g1, g2⟩ := hG
                exact ⟨g0, cur, setRow_heap w b cur' cur e _ hh, by rw [hcs _ _ hh]; exact g1, g2⟩
            have hself := Cf.put_self hb
            obtain ⟨hs', g⟩ := hs.wr (o := .cells u gr (splice cs off new)) (ver' := u) (b' := b) (k' := k) (w' := w.setRow b cur) hwn hb (.inr hb) (.inl rfl) (by rw [setRow_size]; exact hs.hr.lt _ _ _ _ hb) (fun x _ hx => setRow_other w _ x cur hx) (by rw [setRow_size]; exact Nat.le_refl _)
              rfl rfl rfl (by intro v; have := hs.hr.dom _ _ _ hb; simp [own, mods, this, eq_comm]) (by rw [hself]; exact fun _ => ⟨hB' c (Cf.le_refl c) hk, hgr⟩) (fun _ _ _ _ v x e => hs.hr.fut _ _ _ e _ _ _ hob)
            rw [hself] at hs' g
            exact ⟨undef, _, c, lam, .inr ⟨by simp [execOp, ho, Instr.storeAt, Instr.sureAddr, hz, hr], rfl⟩, hs', g, .und, .inl rfl⟩
          · cases h
        · cases h
      · cases h
    · cases h
  · cases h
end
end Go.Proofs.AM
