/- The small machine's arithmetic, comparisons, addresses and lengths are Go's. It states nothing of any program. -/
import Derived.Test.YtjeeofakogoboaaVmE
import Derived.Laws.StructEq
namespace Go.Vm
set_option linter.unusedVariables false
set_option linter.unusedSimpArgs false

/-- A value of a type, by its cells. -/
def valOf (agg : Bool) (us : List Value) : Value := if agg then .agg us.toArray else us.headD undef

section
variable {P : Program} {Wr : Nat → Prop} {S : Nat → Nat → Prop} {β : Nat → Option (Nat × Nat)} {hp hp' : List Ob} {w : World} {ρ : Operand → D} {ρv : Operand → Value} {o : Oper} {d : D} {os os' : List Or} {ps : List Prop}

theorem tinfo_agg {t : TypeId} {n : Nat} (h : tinfo P t = some (true, n)) : (∃ dd, P.underlying t = some dd ∧ dd.isRow = true) ∧ ∃ i, P.info? t = some i ∧ i.size = n := by
  unfold tinfo at h
  split at h
  · rename_i dd i hd hi
    simp only [Option.some.injEq, Prod.mk.injEq, true_and] at h
    exact ⟨⟨_, hd, rfl⟩, _, hi, h⟩
  · rename_i dd i hd hi
    simp only [Option.some.injEq, Prod.mk.injEq, true_and] at h
    exact ⟨⟨_, hd, rfl⟩, _, hi, h⟩
  · simp at h
  · cases h

theorem tinfo_one {t : TypeId} {n : Nat} (h : tinfo P t = some (false, n)) : (∃ dd, P.underlying t = some dd ∧ dd.isRow = false) ∧ ∃ i, P.info? t = some i ∧ i.size = n := by
  unfold tinfo at h
  split at h
  · simp at h
  · simp at h
  · rename_i dd i h1 h2 hd hi
    simp only [Option.some.injEq, Prod.mk.injEq, true_and] at h
    refine ⟨⟨_, hd, ?_⟩, _, hi, h⟩
    cases dd with
    | struct fs => exact absurd rfl (h1 fs)
    | array m e => exact absurd rfl (h2 m e)
    | _ => rfl
  · cases h

theorem run_isAgg {t : TypeId} {agg : Bool} {n : Nat} (h : tinfo P t = some (agg, n)) (w : World) : (isAgg t).run P w = .ok agg w := by
  cases agg with
  | true =>
    obtain ⟨⟨dd, hd, hr⟩, _⟩ := tinfo_agg h
    unfold isAgg
    rw [Sem.run_bind, run_underlying hd w]
    cases dd <;> simp_all
  | false =>
    obtain ⟨⟨dd, hd, hr⟩, _⟩ := tinfo_one h
    unfold isAgg
    rw [Sem.run_bind, run_underlying hd w]
    cases dd <;> simp_all

theorem tinfo_info {t : TypeId} {agg : Bool} {n : Nat} (h : tinfo P t = some (agg, n)) : ∃ i, P.info? t = some i ∧ i.size = n := by
  cases agg with
  | true => exact (tinfo_agg h).2
  | false => exact (tinfo_one h).2

theorem run_part {t : TypeId} {agg : Bool} {n : Nat} {us : List Value} {off : Nat} (ht : tinfo P t = some (agg, n)) (hl : agg = false → ((us.drop off).take n).length = 1) (w : World) :
    (part t us.toArray off).run P w = .ok (valOf agg ((us.drop off).take n)) w := by
  have hagg := run_isAgg ht w
  obtain ⟨i, hi, hn⟩ := tinfo_info ht
  cases agg with
  | true =>
    simp only [part, Sem.run_bind, hagg, Result.andThen_ok, if_true, sizeOf, typeInfo, run_program, hi, Sem.run_pure, hn, valOf]
    congr 2
    apply Array.ext'
    simp only [Array.toList_extract, List.extract_eq_take_drop, Nat.add_sub_cancel_left]
  | false =>
    obtain ⟨u, hu⟩ : ∃ u, (us.drop off).take n = [u] := List.length_eq_one_iff.1 (hl rfl)
    have hget : us[off]? = some u := by
      have h0 : ((us.drop off).take n)[0]? = some u := by rw [hu]; rfl
      rw [List.getElem?_take] at h0
      split at h0
      · rw [List.getElem?_drop] at h0; simpa using h0
      · cases h0
    simp [part, hagg, hget, hu, valOf]

theorem eqGo_sound (d : Nat) (eq : TypeId → List C → List C → Option Bool)
    (ih : ∀ t agg n xs ys us vs r, tinfo P t = some (agg, n) → eq t xs ys = some r → RelL β hp S w xs us → RelL β hp S w ys vs → (agg = false → xs.length = 1 ∧ ys.length = 1) ∧ (Op.equalIn d t (valOf agg us) (valOf agg vs)).run P w = .ok r w) :
    ∀ (fs : List Field) (xs ys : List C) (us vs : List Value) (r : Bool), eqGo P eq fs xs ys = some r → RelL β hp S w xs us → RelL β hp S w ys vs → (Op.eqFields d us.toArray vs.toArray fs).run P w = .ok r w
  | [], xs, ys, us, vs, r, h, _, _ => by simp only [eqGo, Option.some.injEq] at h; subst h; rfl
  | f :: fs, xs, ys, us, vs, r, h, hx, hy => by
    simp only [eqGo] at h
    split at h
    · rename_i hname
      split at h
      · rename_i agg n ht
        split at h
        · rename_i a b h1 h2
          simp only [Option.some.injEq] at h
          subst h
          have hx' := (hx.drop f.offset).take n
          have hy' := (hy.drop f.offset).take n
          obtain ⟨e1, e2⟩ := ih f.type agg n _ _ _ _ a ht h1 hx' hy'
          have hrest := eqGo_sound d eq ih fs xs ys us vs b h2 hx hy
          have p1 := run_part (us := us) (off := f.offset) ht (fun ha => by rw [hx'.length]; exact (e1 ha).1) w
          have p2 := run_part (us := vs) (off := f.offset) ht (fun ha => by rw [hy'.length]; exact (e1 ha).2) w
          simp only [Op.eqFields]
          rw [if_pos hname]
          simp only [Sem.run_bind, p1, p2, Result.andThen_ok, e2]
          cases a
          · simp
          · simp [hrest]
        · cases h
      · cases h
    · cases h

theorem eqIn_sound : ∀ (dp k : Nat) (t : TypeId) (agg : Bool) (n : Nat) (xs ys : List C) (us vs : List Value) (r : Bool), tinfo P t = some (agg, n) → eqIn P dp t xs ys = some r → RelL β hp S w xs us → RelL β hp S w ys vs →
    (agg = false → xs.length = 1 ∧ ys.length = 1) ∧ (Op.equalIn (dp + k) t (valOf agg us) (valOf agg vs)).run P w = .ok r w
  | 0, _, _, _, _, _, _, _, _, _, _, h, _, _ => by simp [eqIn] at h
  | dp + 1, k, t, agg, n, xs, ys, us, vs, r, ht, h, hx, hy => by
    rw [show dp + 1 + k = (dp + k) + 1 by omega]
    simp only [eqIn] at h
    split at h
    · rename_i a b hd
      simp only [Option.some.injEq] at h; subst h
      have hagg : agg = false := by
        cases agg with
        | false => rfl
        | true => obtain ⟨⟨dd, h1, h2⟩, _⟩ := tinfo_agg ht; rw [hd] at h1; injection h1 with h1; subst h1; simp at h2
      subst hagg
      simp only [RelL, RelC, RelP] at hx hy
      obtain ⟨_, _, rfl, ⟨rfl, _⟩, rfl⟩ := hx
      obtain ⟨_, _, rfl, ⟨rfl, _⟩, rfl⟩ := hy
      exact ⟨fun _ => ⟨rfl, rfl⟩, run_equalIn_bool' w _ t a b hd⟩
    · rename_i kk k1 a k2 b hd
      split at h
      · rename_i hk
        subst hk
        simp only [Option.some.injEq] at h; subst h
        have hagg : agg = false := by
          cases agg with
          | false => rfl
          | true => obtain ⟨⟨dd, h1, h2⟩, _⟩ := tinfo_agg ht; rw [hd] at h1; injection h1 with h1; subst h1; simp at h2
        subst hagg
        simp only [RelL, RelC, RelP] at hx hy
        obtain ⟨_, _, rfl, ⟨rfl, _⟩, rfl⟩ := hx
        obtain ⟨_, _, rfl, ⟨rfl, _⟩, rfl⟩ := hy
        exact ⟨fun _ => ⟨rfl, rfl⟩, run_equalIn_int w _ t _ _ a b hd⟩
      · cases h
    · rename_i a b hd
      simp only [Option.some.injEq] at h; subst h
      have hagg : agg = false := by
        cases agg with
        | false => rfl
        | true => obtain ⟨⟨dd, h1, h2⟩, _⟩ := tinfo_agg ht; rw [hd] at h1; injection h1 with h1; subst h1; simp at h2
      subst hagg
      simp only [RelL, RelC, RelP] at hx hy
      obtain ⟨_, _, rfl, ⟨rfl, _⟩, rfl⟩ := hx
      obtain ⟨_, _, rfl, ⟨rfl, _⟩, rfl⟩ := hy
      refine ⟨fun _ => ⟨rfl, rfl⟩, ?_⟩
      rw [beq_toListBytes]
      exact run_equalIn_string w _ t a b hd
    · rename_i fs hd
      split at h
      · cases h
      · rename_i hst
        have hagg : agg = true := by
          cases agg with
          | true => rfl
          | false => obtain ⟨⟨dd, h1, h2⟩, _⟩ := tinfo_one ht; rw [hd] at h1; injection h1 with h1; subst h1; simp at h2
        subst hagg
        refine ⟨(fun hh => by cases hh), ?_⟩
        have hf : P.fieldsOf t = fs := by simp [Program.fieldsOf, hd]
        simp only [valOf, if_true]
        rw [run_equalIn_struct w _ t _ _ (by rw [hf]; exact hd) (by simpa using hst), hf]
        exact eqGo_sound (dp + k) (eqIn P dp) (fun t' agg' n' xs' ys' us' vs' r' a1 a2 a3 a4 => eqIn_sound dp k t' agg' n' xs' ys' us' vs' r' a1 a2 a3 a4) fs.toList _ _ us vs r h hx hy
    · cases h

theorem eqGuard_one (op : BinOp) (t : TypeId) (x y : Operand) (a b : Value) (ha : a ≠ .nilIface) (hb : ∀ cs, a ≠ .agg cs) : (eqGuard op t x y a b).run P w = .ok () w := by
  cases a <;> first | (exact absurd rfl ha) | (exact absurd rfl (hb _)) | (cases op <;> simp [eqGuard])

theorem binInt_sound {op : BinOp} {k : IntKind} {a b : Int} (t : TypeId) (hs : op ≠ .shl ∧ op ≠ .shr) (h : binInt op k a b = some (d, ps)) (hps : ∀ p ∈ ps, p) : ∃ v, (binOp op t (.int k a) (.int k b)).run P w = .ok v w ∧ RelD β hp S w d v := by
  cases op <;> simp only [binInt, Option.some.injEq, Prod.mk.injEq, reduceCtorEq] at h <;> first
    | (obtain ⟨rfl, rfl⟩ := h; refine ⟨.int k _, ?_, mk_int _ _⟩; simp [binOp, Op.intArith, Op.intBits]; done)
    | (obtain ⟨rfl, rfl⟩ := h; refine ⟨.bool _, ?_, mk_bool _⟩; simp [binOp, Op.intCmp]; done)
    | (obtain ⟨rfl, rfl⟩ := h; have hb : b ≠ 0 := hps _ (by simp); refine ⟨.int k _, ?_, mk_int _ _⟩; simp [binOp, Op.intDiv, hb]; done)

theorem shiftInt_sound {op : BinOp} {k kb : IntKind} {a b : Int} (t : TypeId) (h : shiftInt op k a b = some (d, ps)) (hps : ∀ p ∈ ps, p) : ∃ v, (binOp op t (.int k a) (.int kb b)).run P w = .ok v w ∧ RelD β hp S w d v := by
  cases op <;> simp only [shiftInt, Option.some.injEq, Prod.mk.injEq, reduceCtorEq] at h <;>
    (obtain ⟨rfl, rfl⟩ := h; have hb : 0 ≤ b := hps _ (by simp); refine ⟨.int k _, ?_, mk_int _ _⟩; have hb' : ¬ b < 0 := by omega
     simp [binOp, Op.shift, hb'])

theorem eq_ptr_nil {t e : TypeId} (hd : P.underlying t = some (.pointer e)) (a : Addr) (n : Nat) : (Op.equalIn (n + 1) t (.pointer (some a)) (.pointer none)).run P w = .ok false w := by
  simp only [Op.equalIn, Sem.run_bind, run_underlying hd, Result.andThen_ok, Sem.run_pure]
theorem eq_nil_ptr {t e : TypeId} (hd : P.underlying t = some (.pointer e)) (a : Addr) (n : Nat) : (Op.equalIn (n + 1) t (.pointer none) (.pointer (some a))).run P w = .ok false w := by
  simp only [Op.equalIn, Sem.run_bind, run_underlying hd, Result.andThen_ok, Sem.run_pure, Option.isNone_some]
theorem eq_nil_nil {t e : TypeId} (hd : P.underlying t = some (.pointer e)) (n : Nat) : (Op.equalIn (n + 1) t (.pointer none) (.pointer none)).run P w = .ok true w := by
  simp only [Op.equalIn, Sem.run_bind, run_underlying hd, Result.andThen_ok, Sem.run_pure, Option.isNone_none]

theorem ptr_fit {id ver off : Nat} {u : Value} (h : RelC β hp S w (.ptr id ver off) u) (hf : (hp[id]?).any (·.fit ver) = true) :
    ∃ b oo sz cs fz, hp[id]? = some (.cells sz ver cs fz) ∧ β id = some (b, oo) ∧ u = .pointer (some ⟨b, oo + off, none⟩) := by
  simp only [RelC, RelP] at h
  obtain ⟨_, hlt, hs⟩ := h
  rw [List.getElem?_eq_getElem hlt] at hf
  simp only [Option.any_some] at hf
  cases hob : hp[id] with
  | gone => rw [hob] at hf; simp [Ob.fit] at hf
  | cells sz ver' cs fz =>
    rw [hob] at hf
    simp only [Ob.fit, beq_iff_eq] at hf
    subst hf
    have hid : hp[id]? = some (.cells sz ver' cs fz) := by rw [List.getElem?_eq_getElem hlt, hob]
    obtain ⟨_, hs⟩ := hs sz ver' cs fz hid
    obtain ⟨b, oo, hb, hu⟩ := hs rfl
    exact ⟨b, oo, sz, cs, fz, hid, hb, hu⟩

theorem eqD_sound {t : TypeId} {a b : D} {ua ub : Value} {r : Bool} (h : eqD P hp t a b = some r) (ha : RelD β hp S w a ua) (hb : RelD β hp S w b ub) :
    (∀ op x y, (eqGuard op t x y ua ub).run P w = .ok () w) ∧ (Op.equal t ua ub).run P w = .ok r w ∧ (∀ op, op = .eql ∨ op = .neq → (binOp op t ua ub).run P w = ((Op.equal t ua ub).run P w).andThen fun r w => .ok (.bool (if op = .eql then r else !r)) w) := by
  unfold eqD at h
  split at h
  · rename_i a b hd
    simp only [Option.some.injEq] at h; subst h
    obtain rfl := rel_bool ha
    obtain rfl := rel_bool hb
    refine ⟨fun op x y => eqGuard_one op t x y _ _ (by simp) (by simp), ?_, ?_⟩
    · simp only [Op.equal, Op.maxDepth]; exact run_equalIn_bool' w 9999 t a b hd
    · rintro op (rfl | rfl) <;> simp [binOp]
  · rename_i fs xs ys hd
    split at h
    · cases h
    · rename_i hg
      obtain ⟨us, rfl, hx⟩ := (ha : RelV β hp S w (.agg xs) ua)
      obtain ⟨vs, rfl, hy⟩ := (hb : RelV β hp S w (.agg ys) ub)
      refine ⟨fun op x y => run_eqGuard_agg w op t x y us vs (by simpa using hg), ?_, ?_⟩
      · obtain ⟨i, hi⟩ : ∃ i, P.info? t = some i := by
          simp only [Program.underlying] at hd
          cases hi : P.info? t with
          | none => simp [hi] at hd
          | some i => exact ⟨i, rfl⟩
        have ht : tinfo P t = some (true, i.size) := by unfold tinfo; rw [hd, hi]
        have := (eqIn_sound eqDepth 9980 t true i.size xs ys us.toList vs.toList r ht h hx hy).2
        simpa [valOf, Op.equal, Op.maxDepth, eqDepth] using this
      · rintro op (rfl | rfl) <;> simp [binOp]
  · rename_i e id ver off hd
    split at h
    · rename_i hf
      simp only [Option.some.injEq] at h; subst h
      have hb' := rel_sc hb
      subst hb'
      obtain ⟨b, oo, sz, cs, fz, _, _, rfl⟩ := ptr_fit (β := β) (S := S) (w := w) (off := off) (u := ua) ha hf
      refine ⟨fun op x y => eqGuard_one op t x y _ _ (by simp) (by simp), ?_, ?_⟩
      · simp only [Op.equal, Op.maxDepth]
        first | exact eq_ptr_nil hd _ 9999 | exact eq_nil_ptr hd _ 9999
      · rintro op (rfl | rfl) <;> simp [binOp]
    · cases h
  · rename_i e id ver off hd
    split at h
    · rename_i hf
      simp only [Option.some.injEq] at h; subst h
      have ha' := rel_sc ha
      subst ha'
      obtain ⟨b, oo, sz, cs, fz, _, _, rfl⟩ := ptr_fit (β := β) (S := S) (w := w) (off := off) (u := ub) hb hf
      refine ⟨fun op x y => eqGuard_one op t x y _ _ (by simp) (by simp), ?_, ?_⟩
      · simp only [Op.equal, Op.maxDepth]
        first | exact eq_ptr_nil hd _ 9999 | exact eq_nil_ptr hd _ 9999
      · rintro op (rfl | rfl) <;> simp [binOp]
    · cases h
  · rename_i e hd
    simp only [Option.some.injEq] at h; subst h
    have ha' := rel_sc ha
    subst ha'
    have hb' := rel_sc hb
    subst hb'
    refine ⟨fun op x y => eqGuard_one op t x y _ _ (by simp) (by simp), ?_, ?_⟩
    · simp only [Op.equal, Op.maxDepth]
      exact eq_nil_nil hd 9999
    · rintro op (rfl | rfl) <;> simp [binOp]
  · cases h

theorem bin_sound {op : BinOp} {t : TypeId} {a b : D} {ua ub : Value} (x y : Operand) (h : bin P hp op t a b = some (d, ps)) (hps : ∀ p ∈ ps, p) (ha : RelD β hp S w a ua) (hb : RelD β hp S w b ub) :
    ∃ v, (do eqGuard op t x y ua ub; binOp op t ua ub : Sem Value).run P w = .ok v w ∧ RelD β hp S w d v := by
  unfold bin at h
  split at h
  · rename_i k a k' b
    obtain rfl := rel_int ha
    obtain rfl := rel_int hb
    obtain ⟨v, h1, h2⟩ := shiftInt_sound (kb := k') t h hps
    refine ⟨v, ?_, h2⟩
    rw [Sem.run_bind, eqGuard_one _ _ _ _ _ _ (by simp) (by simp)]
    exact h1
  · rename_i k a k' b
    obtain rfl := rel_int ha
    obtain rfl := rel_int hb
    obtain ⟨v, h1, h2⟩ := shiftInt_sound (kb := k') t h hps
    refine ⟨v, ?_, h2⟩
    rw [Sem.run_bind, eqGuard_one _ _ _ _ _ _ (by simp) (by simp)]
    exact h1
  · rename_i k a k' b hs1 hs2
    split at h
    · rename_i hk
      subst hk
      obtain rfl := rel_int ha
      obtain rfl := rel_int hb
      obtain ⟨v, h1, h2⟩ := binInt_sound (k := k) t ⟨by rintro rfl; first | exact hs1 rfl rfl rfl | exact hs1 _ _ _ _ rfl rfl rfl | simp_all, by rintro rfl; first | exact hs2 rfl rfl rfl | exact hs2 _ _ _ _ rfl rfl rfl | simp_all⟩ h hps
      refine ⟨v, ?_, h2⟩
      rw [Sem.run_bind, eqGuard_one _ _ _ _ _ _ (by simp) (by simp)]
      exact h1
    · cases h
  · rename_i a b
    simp only [Option.some.injEq, Prod.mk.injEq] at h
    obtain ⟨rfl, rfl⟩ := h
    obtain rfl := rel_sc ha
    obtain rfl := rel_sc hb
    refine ⟨.bool (a == b), ?_, mk_bool _⟩
    rw [Sem.run_bind, eqGuard_one _ _ _ _ _ _ (by simp) (by simp)]
    simp [binOp, Op.stringOp, beq_toListBytes]
  · rename_i a b
    simp only [Option.some.injEq, Prod.mk.injEq] at h
    obtain ⟨rfl, rfl⟩ := h
    obtain rfl := rel_sc ha
    obtain rfl := rel_sc hb
    refine ⟨.bool (!(a == b)), ?_, mk_bool _⟩
    rw [Sem.run_bind, eqGuard_one _ _ _ _ _ _ (by simp) (by simp)]
    simp [binOp, Op.stringOp, bne, beq_toListBytes]
  · simp only [Option.map_eq_some_iff, Prod.mk.injEq] at h
    obtain ⟨r, hr, rfl, rfl⟩ := h
    obtain ⟨g1, g2, g3⟩ := eqD_sound hr ha hb
    refine ⟨.bool r, ?_, mk_bool _⟩
    rw [Sem.run_bind, g1]
    simp only [Result.andThen_ok]
    rw [g3 _ (.inl rfl), g2]
    simp
  · simp only [Option.map_eq_some_iff, Prod.mk.injEq] at h
    obtain ⟨r, hr, rfl, rfl⟩ := h
    obtain ⟨g1, g2, g3⟩ := eqD_sound hr ha hb
    refine ⟨.bool (!r), ?_, mk_bool _⟩
    rw [Sem.run_bind, g1]
    simp only [Result.andThen_ok]
    rw [g3 _ (.inr rfl), g2]
    simp
  · cases h

theorem op_binOp (h : HRel β hp S w Wr) (hρ : ∀ x, RelD β hp S w (ρ x) (ρv x)) {op : BinOp} {t yt : TypeId} {a b : Operand} (ho : o.op = .binOp op t a b yt) (hop : opx P o ρ hp os = some (d, hp', os', ps)) (hps : ∀ p ∈ ps, p) : OpRun P Wr S β hp w ρv o d hp' := by
  unfold opx at hop
  rw [ho] at hop
  simp only [Option.map_eq_some_iff, Prod.mk.injEq] at hop
  obtain ⟨⟨d0, ps0⟩, h1, rfl, rfl, rfl, rfl⟩ := hop
  obtain ⟨v, g1, g2⟩ := bin_sound a b h1 hps (hρ a) (hρ b)
  refine OpRun.value h (v := v) ?_ g2
  simp only [execOp, ho]
  rw [Sem.run_bind, g1]
  rfl

theorem op_unOp (h : HRel β hp S w Wr) (hρ : ∀ x, RelD β hp S w (ρ x) (ρv x)) {op : UnOp} {t : TypeId} {a : Operand} (ho : o.op = .unOp op t a) (hop : opx P o ρ hp os = some (d, hp', os', ps)) : OpRun P Wr S β hp w ρv o d hp' := by
  unfold opx at hop
  rw [ho] at hop
  simp only at hop
  split at hop
  · rename_i b hb
    simp only [Option.some.injEq, Prod.mk.injEq] at hop
    obtain ⟨rfl, rfl, rfl, rfl⟩ := hop
    have e := hρ a
    rw [hb] at e
    have e := rel_bool e
    exact OpRun.value h (v := .bool (!b)) (by simp [execOp, ho, e, Op.unary]) (mk_bool _)
  · rename_i k n hb
    simp only [Option.some.injEq, Prod.mk.injEq] at hop
    obtain ⟨rfl, rfl, rfl, rfl⟩ := hop
    have e := hρ a
    rw [hb] at e
    have e := rel_int e
    exact OpRun.value h (v := .int k (k.wrap (0 - n))) (by simp [execOp, ho, e, Op.unary, Op.intArith]) (mk_int _ _)
  · rename_i k n hb
    simp only [Option.some.injEq, Prod.mk.injEq] at hop
    obtain ⟨rfl, rfl, rfl, rfl⟩ := hop
    have e := hρ a
    rw [hb] at e
    have e := rel_int e
    exact OpRun.value h (by simp [execOp, ho, e, Op.unary, Op.intBits]) (mk_int _ _)
  · cases hop

theorem op_convert (h : HRel β hp S w Wr) (hρ : ∀ x, RelD β hp S w (ρ x) (ρv x)) {src dst : TypeId} {a : Operand} (ho : o.op = .convert src dst a) (hop : opx P o ρ hp os = some (d, hp', os', ps)) : OpRun P Wr S β hp w ρv o d hp' := by
  unfold opx at hop
  rw [ho] at hop
  simp only at hop
  split at hop
  · rename_i ds k k1 n hs hd hb
    simp only [Option.some.injEq, Prod.mk.injEq] at hop
    obtain ⟨rfl, rfl, rfl, rfl⟩ := hop
    have e := hρ a
    rw [hb] at e
    have e := rel_int e
    exact OpRun.value h (v := .int k (k.wrap n)) (by simp [execOp, ho, e, convert, run_underlying hs, run_underlying hd, Conv.intToInt]) (mk_int _ _)
  · rename_i ds s hs hd hb
    simp only [Option.some.injEq, Prod.mk.injEq] at hop
    obtain ⟨rfl, rfl, rfl, rfl⟩ := hop
    have e := hρ a
    rw [hb] at e
    have e := rel_sc e
    exact OpRun.value h (v := .string s) (by simp [execOp, ho, e, convert, run_underlying hs, run_underlying hd]) (mk_sc rfl)
  · cases hop

end
end Go.Vm
