/- The small machine's append, make, cuts and literals are Go's. It states nothing of any program. -/
import Derived.Test.YtjeeofakogoboaaVmH
namespace Go.Vm
set_option linter.unusedVariables false
set_option linter.unusedSimpArgs false

section
variable {P : Program} {Wr : Nat → Prop} {S : Nat → Nat → Prop} {β : Nat → Option (Nat × Nat)} {H : List Ob} {hp hp' : List Ob} {w w' : World} {ρ : Operand → D} {ρv : Operand → Value} {o : Oper} {d : D} {os os' : List Or} {ps : List Prop}

theorem relAr_new {sz ver n cap b : Nat} {cs : List C} {fz : Bool} {w1 : World} {arr : Array Value} {e : TypeId} (hb : w1.heap[b]? = some (.cells arr e (0, 0))) (hn : n ≤ cap) (hlen : n * sz ≤ cs.length) (hcap : cap * sz ≤ arr.size) :
    RelC (upd β hp.length (some (b, 0))) (hp ++ [.cells sz ver cs fz]) S w1 (.ar hp.length ver 0 n) (.slice (some ⟨b, 0, none⟩) n cap) := by
  simp only [RelC, RelP]
  refine ⟨⟨_, _, _, rfl⟩, by simp, fun sz' ver' cs' fz' hH => ?_⟩
  simp only [List.getElem?_concat_length, Option.some.injEq, Ob.cells.injEq] at hH
  obtain ⟨rfl, rfl, rfl, rfl⟩ := hH
  exact ⟨Nat.le_refl _, fun _ => ⟨by omega, .inr ⟨b, 0, cap, e, arr, upd_same _ _ _, rfl, hn, hb, by omega⟩⟩⟩

theorem relAr_nil {sz ver : Nat} {fz : Bool} {w1 : World} (a : Option Addr) : RelC (upd β hp.length none) (hp ++ [.cells sz ver [] fz]) S w1 (.ar hp.length ver 0 0) (.slice a 0 0) := by
  simp only [RelC, RelP]
  refine ⟨⟨_, _, _, rfl⟩, by simp, fun sz' ver' cs' fz' hH => ?_⟩
  simp only [List.getElem?_concat_length, Option.some.injEq, Ob.cells.injEq] at hH
  obtain ⟨rfl, rfl, rfl, rfl⟩ := hH
  exact ⟨Nat.le_refl _, fun _ => ⟨by omega, .inl ⟨rfl, a, rfl⟩⟩⟩

theorem small_need {k bytes : Nat} (hb : 0 < bytes) (h : k * bytes ≤ 140737488355328) : k ≤ 140737488355328 := Nat.le_trans (Nat.le_mul_of_pos_right _ hb) h

theorem cut_grownCap_ge (w : World) (need old : Nat) (e : TypeId) (h : (need : Int) ≤ 140737488355328) : need ≤ grownCap w need old e := by
  unfold grownCap
  simp only [Question.cut]
  omega

theorem append_new (h : HRel β hp S w Wr) (hf : ∀ b, w.heap.size ≤ b → Wr b) {t ty e : TypeId} {ie : TypeInfo} {z : Value} (ht : P.underlying t = some (.slice e)) (hie : P.info? e = some ie) (hz : ie.zero = some z) (hzs : z.cells.size = ie.size)
    (hsz : 0 < ie.size) (hby : 0 < ie.bytes) {x : C} {ub : Value} {m : Nat} {new : List C} (hsl : slOf hp ie.size x = some (m, new)) (hrx : RelC β hp S w x ub) (hl : new.length = m * ie.size) (hbytes : m * ie.bytes ≤ 140737488355328) (a : Option Addr) :
    ∃ v w' β', (Builtin.append_ #[t, t] ty #[.slice a 0 0, ub]).run P w = .ok v w' ∧ RelC β' (hp ++ [.cells ie.size 1 new false]) S w' (.ar hp.length 1 0 m) v ∧ HRel β' (hp ++ [.cells ie.size 1 new false]) S w' Wr ∧
      Ext β hp S β' (hp ++ [.cells ie.size 1 new false]) S ∧ Evo Wr S w w' := by
  have hm := small_need hby hbytes
  obtain ⟨us, gp, g1, g2, g3⟩ := run_firstCells (P := P) h hsl hrx hl
  have hus : us.length = m * ie.size := by rw [g2.length, hl]
  rcases Nat.eq_zero_or_pos m with rfl | hm0
  · have hnew : new = [] := List.eq_nil_of_length_eq_zero (by omega)
    have hus0 : us = [] := List.eq_nil_of_length_eq_zero (by omega)
    subst hnew; subst hus0
    exact ⟨.slice a 0 0, w, _, run_append_same_gen ht hie a _ g1 (g3 w rfl), relAr_nil a, h.allocNil ie.size 1 false hsz, ext_push _ _ _ _ _, Evo.refl _ _ _⟩
  · have hrun := run_append_grow_gen (P := P) (w := w) (ty := ty) ht hie hz a 0 0 m ub [] us g1 (g3 w.drew rfl) (by cases a <;> simp [Builtin.firstCells, loadCells, loadCellsFrom]) (by omega) (by omega)
      (by simp only [Nat.zero_add]; exact growslice_fits hm0 hbytes)
    simp only [List.nil_append, Nat.zero_add] at hrun
    have hcap : m ≤ grownCap w m 0 e := cut_grownCap_ge w m 0 e (by omega)
    have ha := (h.drew).alloc (hf w.heap.size (Nat.le_refl _)) (RelL.step (Ext.refl _ _ _) (Evo.drew (Wr := Wr) w) _ _ g2) (Builtin.zeroCells z.cells (grownCap w m 0 e - m)).toList e ie.size 1 false hsz (fun _ => gp)
    refine ⟨_, _, _, hrun, ?_, ha, ext_push _ _ _ _ _, (Evo.drew (Wr := Wr) (S := S) w).trans (Evo.alloc w.drew _ h.imm) (fun _ _ hs => hs)⟩
    refine relAr_new (b := w.heap.size) (heap_alloc_new w.drew _) hcap (by omega) ?_
    simp only [List.size_toArray, List.length_append, Array.length_toList, size_zeroCells, hzs, hus, ← Nat.add_mul]
    rw [Nat.add_sub_cancel' hcap]
    exact Nat.le_refl _

theorem relAr_bump {id sz ver n cap b o : Nat} {cs : List C} {fz : Bool} {w1 : World} {arr : Array Value} {e : TypeId} (hid : id < hp.length) (hb : w1.heap[b]? = some (.cells arr e (0, 0))) (hn : n ≤ cap) (hlen : n * sz ≤ cs.length) (hcap : o + cap * sz ≤ arr.size) :
    RelC (upd β id (some (b, o))) (hp.set id (.cells sz ver cs fz)) S w1 (.ar id ver 0 n) (.slice (some ⟨b, o, none⟩) n cap) := by
  simp only [RelC, RelP]
  refine ⟨⟨_, _, _, rfl⟩, by simpa using hid, fun sz' ver' cs' fz' hH => ?_⟩
  simp only [List.getElem?_set, hid, if_true, Option.some.injEq, Ob.cells.injEq] at hH
  obtain ⟨rfl, rfl, rfl, rfl⟩ := hH
  exact ⟨Nat.le_refl _, fun _ => ⟨by omega, .inr ⟨b, o, cap, e, arr, upd_same _ _ _, rfl, hn, hb, by omega⟩⟩⟩

theorem append_on (h : HRel β hp S w Wr) (hf : ∀ b, w.heap.size ≤ b → Wr b) {t ty e : TypeId} {ie : TypeInfo} {z : Value} (ht : P.underlying t = some (.slice e)) (hie : P.info? e = some ie) (hz : ie.zero = some z) (hzs : z.cells.size = ie.size)
    (hsz : 0 < ie.size) (hby : 0 < ie.bytes) {x : C} {ua ub : Value} {m id ver off n : Nat} {new cs : List C} {fz : Bool} (hsl : slOf hp ie.size x = some (m, new)) (hrx : RelC β hp S w x ub) (hrs : RelC β hp S w (.ar id ver off n) ua)
    (hid : hp[id]? = some (.cells ie.size ver cs fz)) (hl : new.length = m * ie.size) (hend : off + n * ie.size = cs.length) (hv0 : ver ≠ 0) (hbytes : (n + m) * ie.bytes ≤ 140737488355328) :
    ∃ v w' β', (Builtin.append_ #[t, t] ty #[ua, ub]).run P w = .ok v w' ∧ RelC β' (hp.set id (.cells ie.size (ver + 1) (cs.drop off ++ new) fz)) S w' (.ar id (ver + 1) 0 (n + m)) v ∧
      HRel β' (hp.set id (.cells ie.size (ver + 1) (cs.drop off ++ new) fz)) S w' Wr ∧ Ext β hp S β' (hp.set id (.cells ie.size (ver + 1) (cs.drop off ++ new) fz)) S ∧ Evo Wr S w w' := by
  have hm := small_need hby hbytes
  have hlt : id < hp.length := (List.getElem?_eq_some_iff.1 hid).1
  obtain ⟨us, gp, g1, g2, g3⟩ := run_firstCells (P := P) h hsl hrx hl
  have hus : us.length = m * ie.size := by rw [g2.length, hl]
  have hcs' : (cs.drop off ++ new).length = (n + m) * ie.size := by rw [List.length_append, List.length_drop, hl, Nat.add_mul]; omega
  simp only [RelC, RelP] at hrs
  obtain ⟨_, _, hs⟩ := hrs
  obtain ⟨_, hs⟩ := hs _ ver cs fz hid
  obtain ⟨_, hs⟩ := hs rfl
  obtain ⟨⟨_, hpl⟩, hcells⟩ := h.cells id _ ver cs fz hid
  have hplain : ∀ c ∈ cs.drop off ++ new, plain c = true := fun c hc => by
    rcases List.mem_append.1 hc with hc | hc
    · exact hpl hv0 c (List.mem_of_mem_drop hc)
    · exact gp c hc
  have hbl : ∀ i szi veri csi fzi bi oi, hp[i]? = some (.cells szi veri csi fzi) → β i = some (bi, oi) → bi < w.heap.size := fun i szi veri csi fzi bi oi hi hb => h.block_lt hi hb
  rcases hs with ⟨rfl, a, rfl⟩ | ⟨b, oo, cap, e', arr, hb, rfl, hcap, hbk, hroom⟩
  · -- it has no room
    have hcs : cs.drop off = [] := List.drop_eq_nil_of_le (by omega)
    rw [hcs] at hcs' ⊢
    simp only [List.nil_append, Nat.zero_add] at hcs' ⊢
    rcases Nat.eq_zero_or_pos m with rfl | hm0
    · have hnew : new = [] := List.eq_nil_of_length_eq_zero (by omega)
      have hus0 : us = [] := List.eq_nil_of_length_eq_zero (by omega)
      subst hnew; subst hus0
      have hx := ext_bump β hp S (cs' := []) (fz' := fz) none hid
      refine ⟨.slice a 0 0, w, _, run_append_same_gen ht hie a _ g1 (g3 w rfl), ?_, h.put (Evo.refl _ _ _) hlt hx ⟨hsz, fun _ => by first | exact hplain | exact gp | (intro c hc; simp at hc)⟩ (fun i szi veri csi fzi bi oi hne hi hb => ⟨rfl, fun b o hh => by cases hh⟩) (.inl ⟨rfl, rfl⟩), hx, Evo.refl _ _ _⟩
      simp only [RelC, RelP]
      refine ⟨⟨_, _, _, rfl⟩, by simpa using hlt, fun sz' ver' cs' fz' hH => ?_⟩
      simp only [List.getElem?_set, hlt, if_true, Option.some.injEq, Ob.cells.injEq] at hH
      obtain ⟨rfl, rfl, rfl, rfl⟩ := hH
      exact ⟨Nat.le_refl _, fun _ => ⟨by simp, .inl ⟨rfl, a, rfl⟩⟩⟩
    · have hrun := run_append_grow_gen (P := P) (w := w) (ty := ty) ht hie hz a 0 0 m ub [] us g1 (g3 w.drew rfl) (by cases a <;> simp [Builtin.firstCells, loadCells, loadCellsFrom]) (by omega) (by omega)
        (by simp only [Nat.zero_add] at hbytes ⊢; exact growslice_fits hm0 hbytes)
      simp only [List.nil_append, Nat.zero_add] at hrun
      have hcap : m ≤ grownCap w m 0 e := cut_grownCap_ge w m 0 e (by omega)
      have hx := ext_bump β hp S (cs' := new) (fz' := fz) (some (w.heap.size, 0)) hid
      have hv : Evo Wr S w (w.drew.alloc (.cells (us ++ (Builtin.zeroCells z.cells (grownCap w m 0 e - m)).toList).toArray e)) := (Evo.drew (Wr := Wr) (S := S) w).trans (Evo.alloc w.drew _ h.imm) (fun _ _ hs => hs)
      have hsize : grownCap w m 0 e * ie.size ≤ (us ++ (Builtin.zeroCells z.cells (grownCap w m 0 e - m)).toList).toArray.size := by
        simp only [List.size_toArray, List.length_append, Array.length_toList, size_zeroCells, hzs, hus, ← Nat.add_mul]
        rw [Nat.add_sub_cancel' hcap]
        exact Nat.le_refl _
      have hle : m * ie.size ≤ grownCap w m 0 e * ie.size := Nat.mul_le_mul_right _ hcap
      refine ⟨_, _, _, hrun, relAr_bump (b := w.heap.size) (o := 0) hlt (heap_alloc_new w.drew _) hcap (by omega) (by omega), ?_, hx, hv⟩
      refine h.put hv hlt hx ⟨hsz, fun _ => by first | exact hplain | exact gp | (intro c hc; simp at hc)⟩ (fun i szi veri csi fzi bi oi hne hi hb => ⟨RowKit.Below.heap_alloc w.drew _ _ (hbl i _ _ _ _ bi oi hi hb), fun b o hh => by
        have := hbl i _ _ _ _ bi oi hi hb; injection hh with hh; injection hh with hh _; omega⟩)
        (.inr ⟨w.heap.size, 0, _, e, rfl, heap_alloc_new w.drew _, hf _ (Nat.le_refl _), by omega, fun j c hc => ?_, fun k hs => absurd (h.imm _ _ hs) (by omega)⟩)
      obtain ⟨u, m1, m2⟩ := g2.get j c hc
      have hj : j < us.length := (List.getElem?_eq_some_iff.1 m1).1
      refine ⟨u, ?_, m2⟩
      have hh := heap_alloc_new w.drew (.cells (us ++ (Builtin.zeroCells z.cells (grownCap w m 0 e - m)).toList).toArray e)
      have hh2 : (w.drew.alloc (.cells (us ++ (Builtin.zeroCells z.cells (grownCap w m 0 e - m)).toList).toArray e)).heap[w.heap.size]? = some (.cells (us ++ (Builtin.zeroCells z.cells (grownCap w m 0 e - m)).toList).toArray e (0, 0)) := hh
      simp only [World.cell?, hh2, Nat.zero_add, Option.isSome_none, Bool.false_eq_true, if_false]
      simp only [List.getElem?_toArray]
      rw [List.getElem?_append_left hj]
      exact m1
  · rcases hcells with hc | ⟨b', o', arr', e'', k1, k2, k3, k4, k5, k6⟩
    · rw [hc.1] at hb; cases hb
    rw [hb] at k1
    simp only [Option.some.injEq, Prod.mk.injEq] at k1
    obtain ⟨rfl, rfl⟩ := k1
    rw [hbk] at k2
    simp only [Option.some.injEq, Obj.cells.injEq, and_true] at k2
    obtain ⟨rfl, rfl⟩ := k2
    have hl0 : Lies β hp S w cs b oo := k5
    rcases Nat.lt_or_ge cap (n + m) with hgt | hle
    · -- a new block
      obtain ⟨olds, o1, o2⟩ := (hl0.drop off).values
      have hol : olds.length = n * ie.size := by rw [o1.length, List.length_drop]; omega
      have hrun := run_append_grow_gen (P := P) (w := w) (ty := ty) ht hie hz (some ⟨b, oo + off, none⟩) n cap m ub olds us g1 (g3 w.drew rfl)
        (run_firstCells_some (P := P) w.drew ie.size n ⟨b, oo + off, none⟩ n cap olds hol (fun j v hv => by rw [Addr.add_mid]; exact o2 j v hv)) hgt (by omega) (growslice_fits hgt hbytes)
      have hcap' : n + m ≤ grownCap w (n + m) cap e := cut_grownCap_ge w (n + m) cap e (by omega)
      have hx := ext_bump β hp S (cs' := cs.drop off ++ new) (fz' := fz) (some (w.heap.size, 0)) hid
      have hv : Evo Wr S w (w.drew.alloc (.cells ((olds ++ us) ++ (Builtin.zeroCells z.cells (grownCap w (n + m) cap e - (n + m))).toList).toArray e)) := (Evo.drew (Wr := Wr) (S := S) w).trans (Evo.alloc w.drew _ h.imm) (fun _ _ hs => hs)
      have hsize : grownCap w (n + m) cap e * ie.size ≤ ((olds ++ us) ++ (Builtin.zeroCells z.cells (grownCap w (n + m) cap e - (n + m))).toList).toArray.size := by
        simp only [List.size_toArray, List.length_append, Array.length_toList, size_zeroCells, hzs, hus, hol, ← Nat.add_mul]
        rw [Nat.add_sub_cancel' hcap']
        exact Nat.le_refl _
      have hle2 : (n + m) * ie.size ≤ grownCap w (n + m) cap e * ie.size := Nat.mul_le_mul_right _ hcap'
      have hall : RelL β hp S w (cs.drop off ++ new) (olds ++ us) := o1.append g2
      refine ⟨_, _, _, hrun, relAr_bump (b := w.heap.size) (o := 0) hlt (heap_alloc_new w.drew _) hcap' (by omega) (by omega), ?_, hx, hv⟩
      refine h.put hv hlt hx ⟨hsz, fun _ => by first | exact hplain | exact gp | (intro c hc; simp at hc)⟩ (fun i szi veri csi fzi bi oi hne hi hb => ⟨RowKit.Below.heap_alloc w.drew _ _ (hbl i _ _ _ _ bi oi hi hb), fun b o hh => by
        have := hbl i _ _ _ _ bi oi hi hb; injection hh with hh; injection hh with hh _; omega⟩)
        (.inr ⟨w.heap.size, 0, _, e, rfl, heap_alloc_new w.drew _, hf _ (Nat.le_refl _), by omega, fun j c hc => ?_, fun k hs => absurd (h.imm _ _ hs) (by omega)⟩)
      obtain ⟨u, m1, m2⟩ := hall.get j c hc
      have hj : j < (olds ++ us).length := (List.getElem?_eq_some_iff.1 m1).1
      refine ⟨u, ?_, m2⟩
      have hh2 : (w.drew.alloc (.cells ((olds ++ us) ++ (Builtin.zeroCells z.cells (grownCap w (n + m) cap e - (n + m))).toList).toArray e)).heap[w.heap.size]? = some (.cells ((olds ++ us) ++ (Builtin.zeroCells z.cells (grownCap w (n + m) cap e - (n + m))).toList).toArray e (0, 0)) := heap_alloc_new w.drew _
      simp only [World.cell?, hh2, Nat.zero_add, Option.isSome_none, Bool.false_eq_true, if_false]
      simp only [List.getElem?_toArray]
      rw [List.getElem?_append_left hj]
      exact m1
    · -- in place
      have hcell : ∀ j, j < arr.size → (w.cell? ⟨b, j, none⟩).isSome = true := fun j hj => by simp [World.cell?, hbk, hj]
      have hcapm : (n + m) * ie.size ≤ cap * ie.size := Nat.mul_le_mul_right _ hle
      have hnm : (n + m) * ie.size = n * ie.size + m * ie.size := Nat.add_mul _ _ _
      have hrun := run_append_room_gen (P := P) (w := w) (ty := ty) ht hie b (oo + off) n cap m ub us g1 (g3 w rfl) g2.all hle (fun j hj => hcell _ (by omega)) (fun j hj => by simp [World.frozen?, hbk])
      have hx := ext_bump β hp S (cs' := cs.drop off ++ new) (fz' := fz) (some (b, oo + off)) hid
      have hat : oo + off + n * ie.size = oo + cs.length := by omega
      rw [hat] at hrun
      have hv : Evo Wr S w (w.setCells b (oo + cs.length) us) := Evo.setCells w k3 (fun k hs => by have := k6 k hs; cases fz <;> simp at this <;> omega)
      obtain ⟨arr2, a1, a2⟩ := heap_setCells_same b us (oo + cs.length) w arr e' (0, 0) hbk
      refine ⟨_, _, _, hrun, relAr_bump (b := b) (o := oo + off) hlt a1 hle (by omega) (by omega), ?_, hx, hv⟩
      refine h.put hv hlt hx ⟨hsz, fun _ => by first | exact hplain | exact gp | (intro c hc; simp at hc)⟩ (fun i szi veri csi fzi bi oi hne hi hbi => ?_) (.inr ⟨b, oo + off, arr2, e', rfl, a1, k3, by omega, fun j c hc => ?_, fun k hs => ?_⟩)
      · have hbn : bi ≠ b := fun ee => hne (h.inj i id _ _ _ _ _ _ _ _ b oi oo hi hid (ee ▸ hbi) hb)
        exact ⟨heap_setCells_other b bi hbn us _ w, fun b2 o2 hh => by injection hh with hh; injection hh with hh _; rw [← hh]; exact hbn⟩
      · rw [List.getElem?_append] at hc
        split at hc
        · rename_i hj
          rw [List.length_drop] at hj
          rw [List.getElem?_drop] at hc
          obtain ⟨u, m1, m2⟩ := k5 (off + j) c hc
          refine ⟨u, ?_, m2⟩
          rw [World.cell?_setCells_out b us (oo + cs.length) w _ (fun _ _ => .inl (by simp; omega))]
          rw [show oo + off + j = oo + (off + j) by omega]
          exact m1
        · rename_i hj
          rw [List.length_drop] at hj hc
          obtain ⟨u, m1, m2⟩ := g2.get (j - (cs.length - off)) c hc
          have hjl : j - (cs.length - off) < us.length := (List.getElem?_eq_some_iff.1 m1).1
          refine ⟨u, ?_, m2⟩
          have := World.cell?_setCells_in b us (oo + cs.length) w (fun i hi => hcell _ (by omega)) (j - (cs.length - off)) hjl
          rw [show oo + cs.length + (j - (cs.length - off)) = oo + off + j by omega] at this
          rw [this]
          rw [List.getElem?_eq_getElem hjl] at m1
          exact m1
      · have := k6 k hs
        cases fz
        · simp at this ⊢; omega
        · simp only [if_true] at this ⊢; rw [hcs']; omega

theorem op_append (h : HRel β hp S w Wr) (hf : ∀ b, w.heap.size ≤ b → Wr b) (hρ : ∀ x, RelD β hp S w (ρ x) (ρv x)) {c : Call} (ho : o.op = .call c) (hc : c.callee = .builtin .append) (hop : opx P o ρ hp os = some (d, hp', os', ps)) (hps : ∀ p ∈ ps, p) : OpRun P Wr S β hp w ρv o d hp' := by
  unfold opx at hop
  rw [ho] at hop
  simp only [hc] at hop
  split at hop
  · rename_i s x t t' hargs hts
    split at hop
    · rename_i htt
      subst htt
      split at hop
      · rename_i e ht
        split at hop
        · rename_i ie hie
          split at hop
          · rename_i hcond
            obtain ⟨hsz, hby, hzs⟩ := hcond
            obtain ⟨z, hz, hzs⟩ := Option.map_eq_some_iff.1 hzs
            obtain ⟨oa, ob, hab, hs, hx⟩ := map_two hargs
            have hrs : RelC β hp S w s (ρv oa) := rel_one (hρ oa) hs
            have hrx : RelC β hp S w x (ρv ob) := rel_one (hρ ob) hx
            have hexec : ∀ v w', (Builtin.append_ #[t, t] o.type #[ρv oa, ρv ob]).run P w = .ok v w' → (execOp ρv o).run P w = .ok (.value v) w' := fun v w' hr => by
              simp [execOp, ho, resolve, hc, toList_two hab, toList_two hts, invoke, builtin, hr]
            split at hop
            · rename_i m new hsl
              split at hop
              · simp only [Option.some.injEq, Prod.mk.injEq] at hop
                obtain ⟨rfl, rfl, rfl, rfl⟩ := hop
                simp only [RelC, RelP] at hrs
                obtain ⟨v, w', β', q1, q2, q3, q4, q5⟩ := append_new (P := P) (ty := o.type) h hf ht hie hz hzs hsz hby hsl hrx (hps _ (by simp)) (hps _ (by simp)) none
                exact ⟨.value v, v, w', β', hexec _ _ (by rw [hrs.1]; exact q1), .inl rfl, q2, q3, q4, q5⟩
              · rename_i id ver off n
                split at hop
                · rename_i sz ver' cs fz hid
                  split at hop
                  · rename_i hvs
                    obtain ⟨rfl, rfl, hv0⟩ := hvs
                    simp only [Option.some.injEq, Prod.mk.injEq] at hop
                    obtain ⟨rfl, rfl, rfl, rfl⟩ := hop
                    obtain ⟨v, w', β', q1, q2, q3, q4, q5⟩ := append_on (P := P) (ty := o.type) h hf ht hie hz hzs hsz hby hsl hrx hrs hid (hps _ (by simp)) (hps _ (by simp)) hv0 (hps _ (by simp))
                    exact ⟨.value v, v, w', β', hexec _ _ q1, .inl rfl, q2, q3, q4, q5⟩
                  · cases hop
                · cases hop
              · cases hop
            · cases hop
          · cases hop
        · cases hop
      · cases hop
    · cases hop
  · cases hop

end
end Go.Vm
