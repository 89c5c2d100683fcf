import Derived.Test.Qxb6500974aGreatEngB
import Derived.Laws.Cells
import Derived.Laws.BytesString
set_option linter.all false
set_option linter.unusedSimpArgs false
namespace Go.Eng

structure RepM (w0 : World) (m : Mem) (w : World) : Prop where
  tape : w.tape = w0.tape
  os : w.os = w0.os
  output : w.output = w0.output
  size0 : w0.heap.size ≤ m.top
  size : m.top ≤ w.heap.size
  old : ∀ b, b < w0.heap.size → w.heap[b]? = w0.heap[b]?
  known : ∀ b f, m.blk b = some f → b < m.top ∧ (f.wr = true → w0.heap.size ≤ b) ∧
    ∃ cs el fz, w.heap[b]? = some (.cells cs el fz) ∧ ∀ i v, f.cell i = some v → cs[i]? = some v ∧ ¬ (fz.1 ≤ i ∧ i < fz.2)

section
variable {P : Program} {w0 : World} {m : Mem} {w : World}

theorem RepM.drew (h : RepM w0 m w) (d : Nat) : RepM w0 m { w with drawn := d } :=
  ⟨h.tape, h.os, h.output, h.size0, h.size, h.old, h.known⟩

theorem RepM.cellAt (h : RepM w0 m w) {b o : Nat} {v : Value} (hc : m.cell b o = some v) : w.cell? ⟨b, o, none⟩ = some v ∧ w.frozen? ⟨b, o, none⟩ = false := by
  unfold Mem.cell at hc
  cases hb : m.blk b with
  | none => simp [hb] at hc
  | some f =>
    simp [hb] at hc
    obtain ⟨_, _, cs, el, fz, hh, hk⟩ := h.known b f hb
    obtain ⟨h1, h2⟩ := hk o v hc
    refine ⟨by simp [World.cell?, hh, h1], ?_⟩
    obtain ⟨lo, hi⟩ := fz
    simp only [World.frozen?, hh]
    simp at h2 ⊢
    omega

theorem RepM.setCell (h : RepM w0 m w) {b o : Nat} {f : Blk} {v : Value} (hb : m.blk b = some f) (hw : f.wr = true) (ho : (f.cell o).isSome = true) :
    RepM w0 (m.setB b (f.upd o v)) (w.setCell ⟨b, o, none⟩ v) := by
  obtain ⟨hlt, hbase, cs, el, fz, hh, hk⟩ := h.known b f hb
  have hbw := hbase hw
  have hheap : ∀ i, (w.setCell ⟨b, o, none⟩ v).heap[i]? = if i = b then some (.cells (cs.setIfInBounds o v) el fz) else w.heap[i]? := by
    intro i
    simp only [World.setCell, Array.getElem?_modify]
    by_cases hi : b = i
    · subst hi; simp [hh]
    · simp [hi, Ne.symm hi]
  refine ⟨h.tape, h.os, h.output, h.size0, ?_, ?_, ?_⟩
  · have := h.size; simpa [World.setCell, Mem.setB] using this
  · intro i hi
    rw [hheap, if_neg (by omega)]
    exact h.old i hi
  · intro i g hg
    rw [hheap]
    simp only [Mem.setB] at hg ⊢
    by_cases hi : i = b
    · subst hi
      simp only [if_true, Option.some.injEq] at hg
      subst hg
      refine ⟨hlt, fun _ => hbw, cs.setIfInBounds o v, el, fz, by simp, fun j u hj => ?_⟩
      simp only [Blk.upd] at hj
      obtain ⟨u0, hu0⟩ := Option.isSome_iff_exists.1 ho
      have ho' := hk o u0 hu0
      have hlt' : o < cs.size := by
        rcases Nat.lt_or_ge o cs.size with h1 | h1
        · exact h1
        · simp [Array.getElem?_eq_none h1] at ho'
      split at hj
      · rename_i hjo
        subst hjo
        simp at hj
        subst hj
        exact ⟨by simp [Array.getElem?_setIfInBounds, hlt'], ho'.2⟩
      · rename_i hjo
        have := hk j u hj
        exact ⟨by rw [Array.getElem?_setIfInBounds_ne (by omega)]; exact this.1, this.2⟩
    · simp only [hi, if_false] at hg ⊢
      exact h.known i g hg

theorem RepM.alloc (h : RepM w0 m w) {f : Blk} {cs : Array Value} {T : TypeId} (hf : ∀ i v, f.cell i = some v → cs[i]? = some v) :
    RepM w0 (m.new w.heap.size f) { w with heap := w.heap.push (.cells cs T) } := by
  refine ⟨h.tape, h.os, h.output, ?_, by simp [Mem.new], ?_, ?_⟩
  · have := h.size0; have := h.size; simp [Mem.new]; omega
  · intro b hb
    have h1 := h.size0; have h2 := h.size
    rw [Array.getElem?_push, if_neg (by omega)]
    exact h.old b hb
  · intro b g hg
    simp only [Mem.new] at hg ⊢
    have h1 := h.size0; have h2 := h.size
    by_cases hb : b = w.heap.size
    · subst hb
      simp at hg
      subst hg
      exact ⟨by omega, fun _ => by omega, cs, T, (0, 0), by simp, fun i v hi => ⟨hf i v hi, by simp⟩⟩
    · simp only [hb, if_false] at hg
      obtain ⟨h3, h4, cs', el, fz, h5, h6⟩ := h.known b g hg
      exact ⟨by omega, h4, cs', el, fz, by rw [Array.getElem?_push, if_neg (by omega)]; exact h5, h6⟩

theorem RepM.row (h : RepM w0 m w) {b : Nat} : ∀ (vs : List Value) (o : Nat), m.row b o vs → ∀ j v, vs[j]? = some v → w.cell? (Addr.add ⟨b, o, none⟩ j) = some v
  | [], o, _, j, v, hj => by simp at hj
  | u :: vs, o, hr, j, v, hj => by
    obtain ⟨h1, h2⟩ := hr
    cases j with
    | zero => simp at hj; subst hj; rw [add_plain]; exact (h.cellAt h1).1
    | succ j =>
      have := h.row vs (o + 1) h2 j v (by simpa using hj)
      rw [add_plain] at this ⊢
      rw [show o + (j + 1) = o + 1 + j by omega]
      exact this

theorem run_loadRow (h : RepM w0 m w) {b o : Nat} {vs : List Value} (hr : m.row b o vs) : (loadCells ⟨b, o, none⟩ vs.length).run P w = .ok vs.toArray w :=
  run_loadCells_list w _ vs (h.row vs o hr)

theorem ldV_cell {d : TypeDesc} {b o : Nat} {K : Value → Prop} (h : ldV d m b o K) : ∃ v, m.cell b o = some v ∧ K v := by
  unfold ldV at h
  split at h <;> first
    | (obtain ⟨n, h1, h2⟩ := h; exact ⟨_, h1, h2⟩)
    | (obtain ⟨a, l, c, h1, h2⟩ := h; exact ⟨_, h1, h2⟩)
theorem ldL_row {b : Nat} : ∀ {ds : List TypeDesc} {o : Nat} {K : List Value → Prop}, ldL m b ds o K → ∃ vs, vs.length = ds.length ∧ m.row b o vs ∧ K vs
  | [], _, _, h => ⟨[], rfl, trivial, h⟩
  | d :: ds, o, K, h => by
    obtain ⟨v, h1, h2⟩ := ldV_cell h
    obtain ⟨vs, h3, h4, h5⟩ := ldL_row h2
    exact ⟨v :: vs, by simp [h3], ⟨h1, h4⟩, h5⟩
theorem isAgg_run {t : TypeId} {d : TypeDesc} (hu : P.underlying t = some d) (w : World) : (isAgg t).run P w = .ok (isAggD d) w := by
  simp only [isAgg, Sem.run_bind, run_underlying hu, Result.andThen]
  cases d <;> simp [isAggD]
theorem ldT_sound {t : TypeId} {b o : Nat} {K : Value → Prop} (h : ldT P t m b o K) : ∃ v, K v ∧ ∀ {w0 w}, RepM w0 m w → (loadVar t ⟨b, o, none⟩).run P w = .ok v w := by
  unfold ldT at h
  split at h
  · rename_i d hu
    split at h
    · rename_i ha
      split at h
      · rename_i hf
        simp only [flatOk, Bool.and_eq_true, beq_iff_eq] at hf
        obtain ⟨i, hinfo⟩ := info_some hf.2
        obtain ⟨vs, h1, h2, h3⟩ := ldL_row h
        refine ⟨_, h3, fun {w0 w} hm => ?_⟩
        have := run_loadRow (P := P) hm h2
        rw [h1, hf.1] at this
        simp [loadVar, isAgg_run hu, ha, run_sizeOf w hinfo, this, Result.andThen]
      · exact h.elim
    · rename_i ha
      obtain ⟨v, h1, h2⟩ := ldV_cell h
      refine ⟨v, h2, fun {w0 w} hm => ?_⟩
      simp [loadVar, isAgg_run hu, ha, (hm.cellAt h1).1, Result.andThen]
  · exact h.elim

theorem evRead_sound {ρ : Operand → Option Value} {e : Operand → Value} (hρ : ∀ x v, ρ x = some v → e x = v) (o : Oper) {K : Value → Prop} (h : evRead P ρ o.op m K) :
    ∃ v, K v ∧ ∀ {w0 w}, RepM w0 m w → (execOp e o).run P w = .ok (.value v) w := by
  obtain ⟨dst, op, type, pos, after, guard⟩ := o
  simp only at h
  unfold evRead at h
  split at h
  · split at h
    · rename_i p hp
      obtain ⟨b, o, rfl, hK⟩ := ckP_some h
      obtain ⟨v, hK, hr⟩ := ldT_sound hK
      exact ⟨v, hK, fun {w0 w} hm => by simp [execOp, Instr.loadAt, hρ _ _ hp, Instr.sureAddr, hr hm, Result.andThen]⟩
    · exact h.elim
  · exact h.elim

theorem oneC_eq (v : Value) : oneC v = v.oneCell' := by cases v <;> rfl
theorem run_st (hm : RepM w0 m w) {b o : Nat} {f : Blk} {v : Value} (hb : m.blk b = some f) (ho : (f.cell o).isSome = true) (hv : oneC v = true) (md : Mode) :
    (store ⟨b, o, none⟩ v md).run P w = .ok () (w.setCell ⟨b, o, none⟩ v) := by
  obtain ⟨u, hu⟩ := Option.isSome_iff_exists.1 ho
  have hc := hm.cellAt (b := b) (o := o) (v := u) (by simp [Mem.cell, hb, hu])
  rw [run_store P w _ v md (by rw [← oneC_eq]; exact hv)]
  simp [hc.1, hc.2]
theorem stL_sound {b : Nat} : ∀ (vs : List Value) (o i : Nat) (m : Mem) (w : World) (K : Mem → Prop), RepM w0 m w → stL m b (o + i) vs K → ∃ m' w', (storeCells ⟨b, o, none⟩ vs i).run P w = .ok () w' ∧ RepM w0 m' w' ∧ K m'
  | [], o, i, m, w, K, hm, h => ⟨m, w, by simp [storeCells], hm, h⟩
  | v :: vs, o, i, m, w, K, hm, h => by
    simp only [stL] at h
    split at h
    · rename_i hv
      obtain ⟨f, hb, hw, ho, h⟩ := h
      obtain ⟨m', w', h1, h2, h3⟩ := stL_sound vs o (i + 1) _ _ K (hm.setCell hb hw ho) (by rw [← Nat.add_assoc]; exact h)
      refine ⟨m', w', ?_, h2, h3⟩
      simp only [storeCells, Sem.run_bind, add_plain, run_st hm hb ho hv, Result.andThen, h1]
    · exact h.elim

def Goes (P : Program) (R : Value → World → Prop) : Result Next → Prop
  | .ok (.value v) w => R v w
  | .ok .skip w => R undef w
  | .ok (.enter f args) w => Calls P f args w fun e w' => ∃ v, e = .returned v ∧ R v w'
  | _ => False
def callOK (P : Program) (w0 : World) : CallT := fun f vs K m =>
  ∀ w, RepM w0 m w → (callFunc f vs.toArray).run P w = .ok (.enter f vs.toArray) w ∧
    Calls P f vs.toArray w fun e w' => ∃ v m', e = .returned v ∧ RepM w0 m' w' ∧ K v m'

theorem shD_val {d : TypeDesc} {K : Value → Prop} (h : shD d K) : ∃ v, K v := by
  unfold shD at h
  split at h <;> first | (obtain ⟨n, h⟩ := h; exact ⟨_, h⟩) | (obtain ⟨a, l, c, h⟩ := h; exact ⟨_, h⟩)
theorem shL_val : ∀ {ds : List TypeDesc} {K : List Value → Prop}, shL ds K → ∃ vs, K vs
  | [], _, h => ⟨[], h⟩
  | d :: ds, _, h => by
    obtain ⟨v, h⟩ := shD_val h
    obtain ⟨vs, h⟩ := shL_val h
    exact ⟨_, h⟩
theorem shT_val {t : TypeId} {K : Value → Prop} (h : shT P t K) : ∃ v, K v := by
  unfold shT at h
  split at h
  · split at h
    · obtain ⟨vs, h⟩ := shL_val h; exact ⟨_, h⟩
    · exact shD_val h
  · exact h.elim
theorem shTs_val : ∀ {ts : List TypeId} {K : List Value → Prop}, shTs P ts K → ∃ vs, K vs
  | [], _, h => ⟨[], h⟩
  | t :: ts, _, h => by
    obtain ⟨v, h⟩ := shT_val h
    obtain ⟨vs, h⟩ := shTs_val h
    exact ⟨_, h⟩
theorem unR_val {f : FuncId} {v : Value} {K : Value → Prop} (h : unR P f v K) : K v := by
  unfold unR at h
  split at h
  · obtain ⟨vs, h1, h2⟩ := shTs_val h
    rw [h1]; exact h2
  · exact h.elim

theorem alloc_goes (hm : RepM w0 m w) {f : Blk} {cs : Array Value} {T : TypeId} (hf : ∀ i v, f.cell i = some v → cs[i]? = some v) {K : Nat → Mem → Prop} (h : allocB m f K) :
    ∃ m', RepM w0 m' { w with heap := w.heap.push (.cells cs T) } ∧ K w.heap.size m' :=
  ⟨_, hm.alloc hf, h w.heap.size hm.size⟩

theorem rdRow_sound (hm : RepM w0 m w) {a : Option Addr} {n : Nat} {K : List Value → Prop} (h : rdRow m a n K) (size k l c : Nat) (hn : n = k * size) :
    ∃ vs, K vs ∧ vs.length = n ∧ (Builtin.firstCells size k (.slice a l c)).run P w = .ok vs.toArray w := by
  unfold rdRow at h
  split at h
  · exact ⟨[], h.2, h.1.symm, by simp [Builtin.firstCells]⟩
  · obtain ⟨vs, h1, h2, h3⟩ := h
    refine ⟨vs, h3, h1, ?_⟩
    have := run_loadRow (P := P) hm h2
    rw [h1, hn] at this
    simp [Builtin.firstCells, this]
  · exact h.elim

theorem zeroCells_get (z : Array Value) (n i : Nat) (v : Value) (hi : i < n * z.size) (hv : z.toList[i % z.size]? = some v) : (Builtin.zeroCells z n)[i]? = some v := by
  have hz : i % z.size < z.size := Nat.mod_lt _ (by rcases Nat.eq_zero_or_pos z.size with h | h; · rw [h] at hi; simp at hi
                                                    · exact h)
  unfold Builtin.zeroCells
  rw [Array.getElem?_map]
  simp only [Array.getElem?_range, hi, if_true, Option.map_some, Option.some.injEq]
  have : z[i % z.size]? = some v := by simpa using hv
  rw [getElem!_pos z _ hz]
  rw [Array.getElem?_eq_getElem hz] at this
  simpa using this

theorem appendC_sound (hm : RepM w0 m w) {size bytes : Nat} {e : TypeId} {i : TypeInfo} (hi : P.info? e = some i) (hs : i.size = size) (hb : i.bytes = bytes) {zv : Value} (hz : ∀ w, (zeroValue e).run P w = .ok zv w) (hzs : zv.cells.size = size)
    {t tx ty : TypeId} (hu : P.underlying t = some (.slice e)) {dx : TypeDesc} (hux : P.underlying tx = some dx) (hdx : (∃ e', dx = .slice e') ∨ dx = .string)
    {a : Option Addr} {len cap n : Nat} {y : Value} {new : List Value} (hnl : new.length = n * size) (hlen : (Builtin.lenOf y).run P w = .ok n w)
    (hnew : (Builtin.firstCells size n y).run P w = .ok new.toArray w) (hnew' : ∀ d, (Builtin.firstCells size n y).run P { w with drawn := d } = .ok new.toArray { w with drawn := d })
    {K : Option Addr → Nat → Mem → Prop} (h : appendC m size bytes zv.cells.toList a len cap n new K) (ats : Array TypeId) (h0 : ats[0]? = some t) (h1 : ats[1]? = some tx) :
    ∃ a' c' m' w', (Builtin.append_ ats ty #[.slice a len cap, y]).run P w = .ok (.slice a' (len + n) c') w' ∧ RepM w0 m' w' ∧ K a' c' m' := by
  have hsz : ∀ w, (sizeOf e).run P w = .ok size w := fun w => by rw [run_sizeOf w hi]; simp [Program.cellsOf, hi, hs]
  by_cases hle : len + n ≤ cap
  · have h := h.1 hle
    cases a with
    | none =>
      refine ⟨_, _, m, w, ?_, hm, h⟩
      rcases hdx with ⟨e', rfl⟩ | rfl <;> simp [Builtin.append_, h0, h1, run_underlying hu, run_underlying hux, Result.andThen, hsz, hlen, hle, hnew]
    | some ad =>
      match ad, h with
      | ⟨b, o, none⟩, h =>
      obtain ⟨m', w', h2, h3, h4⟩ := stL_sound (P := P) new (o + len * size) 0 m w _ hm h
      refine ⟨_, _, m', w', ?_, h3, h4⟩
      rcases hdx with ⟨e', rfl⟩ | rfl <;> simp [Builtin.append_, h0, h1, run_underlying hu, run_underlying hux, Result.andThen, hsz, hlen, hle, hnew, add_plain, h2]
  · obtain ⟨hcap, hpos, h⟩ := h.2 (by omega)
    obtain ⟨old, h, hol, hold⟩ := rdRow_sound (P := P) (hm.drew (w.drawn + 1)) h size len len cap rfl
    let nc := (Question.appendCap (len + n) cap e).cut (w.tape w.drawn (.appendCap (len + n) cap e))
    have hnc : len + n ≤ nc ∧ nc < 2 ^ 63 := by
      have hmul : len + n < 2 ^ 63 := by
        have hk : len + n ≤ Builtin.nextslicecap (len + n) cap := by
          unfold Builtin.nextslicecap
          split
          · exact Nat.le_refl _
          · split
            · omega
            · simp only [Builtin.growBy]
              repeat' split
              all_goals omega
        have : len + n ≤ 2 ^ 48 := by
          calc len + n ≤ Builtin.nextslicecap (len + n) cap := hk
            _ ≤ Builtin.nextslicecap (len + n) cap * bytes := Nat.le_mul_of_pos_right _ hpos
            _ ≤ 2 ^ 48 := hcap
        omega
      show len + n ≤ len + n + _ % (2 ^ 63 - (len + n)) ∧ len + n + _ % (2 ^ 63 - (len + n)) < 2 ^ 63
      have := Nat.mod_lt (w.tape w.drawn (.appendCap (len + n) cap e)) (show 2 ^ 63 - (len + n) > 0 by omega)
      omega
    have h := h nc hnc.1 hnc.2
    obtain ⟨m', h2, h3⟩ := alloc_goes (T := e) (hm.drew (w.drawn + 1)) (cs := old.toArray ++ (new.toArray ++ Builtin.zeroCells zv.cells (nc - (len + n)))) (fun j v hj => by
      simp only at hj
      have hlen2 : (old ++ new).length = (len + n) * size := by simp [hol, hnl, Nat.add_mul]
      rw [← Array.append_assoc]
      by_cases hj1 : j < (old ++ new).length
      · rw [if_pos hj1] at hj
        rw [Array.getElem?_append_left (by simpa using hj1)]
        simpa using hj
      · rw [if_neg hj1] at hj
        split at hj
        · rename_i hj2
          rw [Array.getElem?_append_right (by simpa using hj1)]
          have e1 : (old.toArray ++ new.toArray).size = (old ++ new).length := by simp
          rw [e1]
          refine zeroCells_get zv.cells _ _ v ?_ (by simpa using hj)
          rw [hzs, Nat.sub_mul, hlen2]
          have : (len + n) * size ≤ nc * size := Nat.mul_le_mul_right _ hnc.1
          omega
        · cases hj) h
    refine ⟨_, _, m', _, ?_, h2, h3⟩
    have hle' : ¬ (Builtin.nextslicecap (len + n) cap * bytes > 2 ^ 48) := by omega
    have hbb : bytes ≠ 0 := by omega
    have hold' : (Builtin.firstCells size len (.slice a len cap)).run P w.drew = .ok old.toArray w.drew := hold
    have hnw' : (Builtin.firstCells size n y).run P w.drew = .ok new.toArray w.drew := hnew' _
    rcases hdx with ⟨e', rfl⟩ | rfl <;>
      (simp [Builtin.append_, h0, h1, run_underlying hu, run_underlying hux, Result.andThen, hsz, hlen, hle, run_typeInfo _ hi, hb, hbb, hle', Question.forced, hold', hnw', hz, newRow]
       exact ⟨rfl, rfl, rfl, rfl⟩)

theorem mkSlice_sound (hm : RepM w0 m w) {e t : TypeId} {i : TypeInfo} (hi : P.info? e = some i) {zv : Value} (hz : ∀ w, (zeroValue e).run P w = .ok zv w) (hzs : zv.cells.size = P.cellsOf e) (hp : P.cellsOf e ≠ 0)
    (hu : P.underlying t = some (.slice e)) {l c : Int} {kl kc : IntKind} {K : Nat → Mem → Prop} (h : mkSlice m zv.cells.toList (P.bytesOf e) l c K) :
    ∃ b m' w', (Instr.makeSlice t (.int kl l) (.int kc c)).run P w = .ok (.slice (some ⟨b, 0, none⟩) l.toNat c.toNat) w' ∧ RepM w0 m' w' ∧ K b m' := by
  obtain ⟨h1, h2, h3, h4, h5⟩ := h
  have hwl : IntKind.i64.wrap l = l := by simp [IntKind.wrap, IntKind.bits, IntKind.signed]; omega
  have hwc : IntKind.i64.wrap c = c := by simp [IntKind.wrap, IntKind.bits, IntKind.signed]; omega
  obtain ⟨m', h6, h7⟩ := alloc_goes (T := e) hm (cs := (Array.range (c.toNat * P.cellsOf e)).map (zv.cells[· % zv.cells.size]!)) (fun j v hj => by
    simp only [rowsOf, Array.length_toList] at hj
    split at hj
    · rename_i hj1
      have := zeroCells_get zv.cells c.toNat j v hj1 hj
      rw [Builtin.zeroCells, hzs] at this
      rw [hzs]; exact this
    · cases hj) h5
  refine ⟨_, m', _, ?_, h6, h7⟩
  have hb : P.bytesOf e = i.bytes := by simp [Program.bytesOf, hi]
  have hc0 : ¬ (c < 0) := by omega
  have hl0 : ¬ (l < 0) := by omega
  have hlc : ¬ (c < l) := by omega
  have hbig : ¬ ((2:Int) ^ 48 < i.bytes * c) := by rw [hb] at h3; omega
  simp only [Instr.makeSlice, Sem.run_bind, run_underlying hu, Result.andThen, asInt, asIntOf, Sem.run_pure, run_typeInfo _ hi, hwl, hwc]
  simp only [gt_iff_lt, hc0, hl0, hlc, hbig, decide_false, Bool.or_self, Bool.false_eq_true, or_self, if_false, Sem.run_pure, run_askRoom, Sem.run_bind, run_sizeOf w hi, Result.andThen]
  by_cases hn : c.toNat * P.cellsOf e = 0
  · have e0 : ∀ f : Nat → Value, (Array.range 0).map f = #[] := fun f => by apply Array.ext'; simp
    simp [hn, newRow, Result.andThen, e0]
  · simp [hn, newRow, hz, Result.andThen]

theorem copy_sound (hm : RepM w0 m w) {e t ty : TypeId} {i : TypeInfo} (hi : P.info? e = some i) (hu : P.underlying t = some (.slice e)) {a : Option Addr} {dl dc sl : Nat} {y : Value} {new : List Value}
    (hlen : (Builtin.lenOf y).run P w = .ok sl w) (hnew : (Builtin.firstCells (P.cellsOf e) (Nat.min sl dl) y).run P w = .ok new.toArray w) {K : Value → Mem → Prop} (ats : Array TypeId) (h0 : ats[0]? = some t)
    (h : copyP m a new fun m => K (.int .i64 (Nat.min sl dl : Nat)) m) :
    ∃ v m' w', (Builtin.copy_ ats ty #[.slice a dl dc, y]).run P w = .ok v w' ∧ RepM w0 m' w' ∧ K v m' := by
  cases a with
  | none =>
    refine ⟨_, m, w, ?_, hm, h⟩
    simp [Builtin.copy_, h0, run_underlying hu, Result.andThen, hlen, run_sizeOf w hi, hnew, goInt]
  | some ad =>
    match ad, h with
    | ⟨b, o, none⟩, h =>
    obtain ⟨m', w', h2, h3, h4⟩ := stL_sound (P := P) new o 0 m w _ hm h
    refine ⟨_, m', w', ?_, h3, h4⟩
    simp [Builtin.copy_, h0, run_underlying hu, Result.andThen, hlen, run_sizeOf w hi, hnew, goInt, h2]

theorem bytesV_length (s : ByteArray) : (bytesV s).length = s.size := by simp [bytesV]
theorem firstCells_string (s : ByteArray) (n : Nat) (w : World) : (Builtin.firstCells 1 n (.string s)).run P w = .ok ((bytesV s).take n).toArray w := by
  simp only [Builtin.firstCells, bytesV, Sem.run_pure]
  congr 1
  apply Array.ext'
  simp only [Array.toList_map, ← List.map_take, ByteArray.data_extract, Array.toList_extract, List.extract_eq_take_drop]
  simp
theorem bytes_fold (l : List UInt8) : ∀ (r : ByteArray), (l.map (fun x => ((x.toNat : Nat) : Int))).foldl (fun r n => r.push (UInt8.ofNat n.toNat)) r = ⟨r.data ++ l.toArray⟩ := by
  induction l with
  | nil => intro r; simp
  | cons x l ih =>
    intro r
    simp only [List.map_cons, List.foldl_cons, ih]
    congr 1
    apply Array.ext'
    simp [ByteArray.push]
theorem bytesToString_sound (hm : RepM w0 m w) {b o : Nat} {s : ByteArray} {l c : Nat} (hl : s.size = l) (h : m.row b o (bytesV s)) : (Conv.bytesToString (.slice (some ⟨b, o, none⟩) l c)).run P w = .ok (.string s) w := by
  have h1 := run_loadRow (P := P) hm h
  rw [bytesV_length, hl] at h1
  have h2 : bytesV s = ((s.data.toList.map (fun x => ((x.toNat : Nat) : Int))).map (Value.int .u8)) := by simp [bytesV]
  rw [h2] at h1
  rw [run_bytesToString w _ l c _ h1, bytes_fold]
  simp

theorem loadCellsFrom_drawn {a : Addr} : ∀ (n i : Nat) (acc vs : Array Value) (w : World), (loadCellsFrom a i n acc).run P w = .ok vs w → ∀ d, (loadCellsFrom a i n acc).run P { w with drawn := d } = .ok vs { w with drawn := d }
  | 0, i, acc, vs, w, h, d => by simp [loadCellsFrom] at h ⊢; exact h
  | n + 1, i, acc, vs, w, h, d => by
    simp only [loadCellsFrom, Sem.run_bind, run_load] at h ⊢
    have hc : World.cell? { w with drawn := d } (a.add i) = w.cell? (a.add i) := rfl
    have hf : World.farLoad P { w with drawn := d } (a.add i) (Mode.plain == .atomic) = w.farLoad P (a.add i) (Mode.plain == .atomic) := rfl
    rw [hc, hf]
    cases hv : w.cell? (a.add i) with
    | some v =>
      simp only [hv, Result.andThen] at h ⊢
      exact loadCellsFrom_drawn n (i + 1) _ vs w h d
    | none =>
      simp only [hv] at h ⊢
      cases hx : w.farLoad P (a.add i) (Mode.plain == .atomic) with
      | ok x =>
        obtain ⟨v, l⟩ := x
        simp only [hx, Result.andThen] at h ⊢
        exact loadCellsFrom_drawn n (i + 1) _ vs w h d
      | error e => simp [hx, Result.andThen] at h
theorem loadCells_drawn {a : Addr} {n : Nat} {vs : Array Value} {w : World} (h : (loadCells a n).run P w = .ok vs w) (d : Nat) : (loadCells a n).run P { w with drawn := d } = .ok vs { w with drawn := d } :=
  loadCellsFrom_drawn n 0 #[] vs w h d
theorem flatten_replicate (z : List Value) : ∀ (n j : Nat), ((List.replicate n z).flatten)[j]? = if j < n * z.length then z[j % z.length]? else none
  | 0, j => by simp
  | n + 1, j => by
    simp only [List.replicate_succ, List.flatten_cons, List.getElem?_append, flatten_replicate z n]
    by_cases h1 : j < z.length
    · rw [if_pos h1, if_pos (by rw [Nat.add_mul]; omega), Nat.mod_eq_of_lt h1]
    · rw [if_neg h1]
      by_cases h2 : j < (n + 1) * z.length
      · rw [if_pos h2, if_pos (by rw [Nat.add_mul] at h2; omega)]
        congr 1
        conv => rhs; rw [show j = (j - z.length) + z.length by omega]
        simp
      · rw [if_neg h2, if_neg (by rw [Nat.add_mul] at h2; omega)]

theorem RepM.freeze (h : RepM w0 m w) {b n : Nat} (hb : w0.heap.size ≤ b) (hn : ∀ f, m.blk b = some f → ∀ i v, f.cell i = some v → i < n) {cs : Array Value} {T : TypeId} (hh : w.heap[b]? = some (.cells cs T (0, 0))) :
    RepM w0 m (w.freeze ⟨b, n, none⟩ 1) := by
  have hheap : ∀ i, (w.freeze ⟨b, n, none⟩ 1).heap[i]? = if i = b then some (.cells cs T (n, n + 1)) else w.heap[i]? := by
    intro i
    simp only [World.freeze, Nat.one_ne_zero, if_false, Array.getElem?_modify]
    by_cases hi : b = i
    · subst hi; simp [hh]
    · simp [hi, Ne.symm hi]
  refine ⟨h.tape, h.os, h.output, h.size0, ?_, ?_, ?_⟩
  · have := h.size; simpa [World.freeze] using this
  · intro i hi; rw [hheap, if_neg (by omega)]; exact h.old i hi
  · intro i g hg
    obtain ⟨h3, h4, cs', el, fz, h5, h6⟩ := h.known i g hg
    refine ⟨h3, h4, ?_⟩
    rw [hheap]
    by_cases hi : i = b
    · subst hi
      rw [hh] at h5
      simp only [Option.some.injEq, Obj.cells.injEq] at h5
      obtain ⟨rfl, rfl, rfl⟩ := h5
      exact ⟨cs, T, (n, n + 1), by simp, fun j v hj => ⟨(h6 j v hj).1, by have := hn g hg j v hj; simp; omega⟩⟩
    · exact ⟨cs', el, fz, by simp [hi, h5], h6⟩

theorem stringToBytes_sound (hm : RepM w0 m w) {el : TypeId} {s : ByteArray} {K : Value → Mem → Prop}
    (h : ∀ cap, s.size ≤ cap → allocB m { wr := true, cell := fun i => if i < s.size then (bytesV s)[i]? else if i < cap then some (.int .u8 0) else none } fun b m => K (.slice (some ⟨b, 0, none⟩) s.size cap) m) :
    ∃ v m' w', (Conv.stringToBytes el s).run P w = .ok v w' ∧ RepM w0 m' w' ∧ K v m' := by
  let nc := (Question.appendCap s.size 0 el).cut (w.tape w.drawn (.appendCap s.size 0 el))
  have hnc : s.size ≤ nc := by
    show s.size ≤ s.size + _ % (2 ^ 63 - s.size)
    omega
  let cs : Array Value := (s.data.map fun b => Value.int .u8 b.toNat) ++ Array.replicate (nc - s.size) (.int .u8 0)
  have hcsz : cs.size = nc := by simp [cs]; show s.size + _ = _; omega
  have hcell : ∀ i v, (if i < s.size then (bytesV s)[i]? else if i < nc then some (Value.int .u8 0) else none) = some v → cs[i]? = some v := by
    intro i v hi
    split at hi
    · rename_i h1
      have h1' : i < s.data.size := h1
      simp only [bytesV, List.getElem?_map, Array.getElem?_toList] at hi
      simp only [cs]
      rw [Array.getElem?_append_left (by simpa using h1'), Array.getElem?_map]
      exact hi
    · rename_i h1
      have h1' : ¬ i < s.data.size := h1
      split at hi
      · rename_i h2
        simp at hi; subst hi
        simp only [cs]
        rw [Array.getElem?_append_right (by simpa using h1')]
        simp only [Array.size_map, Array.getElem?_replicate]
        rw [if_pos]
        show i - s.size < nc - s.size
        omega
      · cases hi
  obtain ⟨m', h1, h2⟩ : ∃ m', RepM w0 m' { w.drew with heap := w.heap.push (.cells cs el) } ∧ (∀ f, m'.blk w.heap.size = some f → ∀ i v, f.cell i = some v → i < cs.size) ∧ K (.slice (some ⟨w.heap.size, 0, none⟩) s.size nc) m' := by
    refine ⟨_, (hm.drew (w.drawn + 1)).alloc (T := el) hcell, ?_, h nc hnc w.heap.size hm.size⟩
    intro f hf i v hv
    simp [Mem.new] at hf
    subst hf
    have := hcell i v hv
    rcases Nat.lt_or_ge i cs.size with h1 | h1
    · exact h1
    · simp [Array.getElem?_eq_none h1] at this
  refine ⟨_, m', _, ?_, h1.freeze (b := w.heap.size) (n := cs.size) (by have := hm.size0; have := hm.size; omega) h2.1 (cs := cs) (T := el) (by simp), h2.2⟩
  have hstep : (Conv.stringToBytes el s).run P w = ((markStringish ⟨w.heap.size, 0, none⟩).run P { w.drew with heap := w.heap.push (.cells cs el) }).andThen fun _ w' => .ok (.slice (some ⟨w.heap.size, 0, none⟩) s.size nc) w' := by
    simp only [Conv.stringToBytes, Sem.run_bind, run_choose, Question.forced, Bool.false_eq_true, if_false, Result.andThen, newRow, run_newObj, Sem.run_pure]
    rfl
  have hsh : World.shape? { w.drew with heap := w.heap.push (.cells cs el) } w.heap.size = some (el, cs.size) := by
    unfold World.shape?
    simp only [Array.getElem?_push, if_true]
  rw [hstep]
  simp only [markStringish, Sem.run_bind, run_shape, hsh, Result.andThen, run_freeze]

theorem evEff_sound (hm : RepM w0 m w) {ρ : Operand → Option Value} {e : Operand → Value} (hρ : ∀ x v, ρ x = some v → e x = v) (hfn : ∀ f, e (.func f) = .func (.func f) #[] #[]) (o : Oper) {K : Value → Mem → Prop}
    (h : evEff P (callOK P w0) ρ o.op m K) : Goes P (fun v w' => ∃ m', RepM w0 m' w' ∧ K v m') ((execOp e o).run P w) := by
  obtain ⟨dst, op, type, pos, after, guard⟩ := o
  simp only at h
  unfold evEff at h
  split at h
  ·
    rename_i t
    split at h
    · rename_i z hz
      obtain ⟨v, hv, hzr⟩ := zero_sound hz
      obtain ⟨m', h1, h2⟩ := alloc_goes (T := t) hm (cs := v.cells) (fun i u hi => by
        simp only [zeroBlk, Blk.ofList, hz, Option.getD_some] at hi; rw [← hv] at hi; simpa using hi) h
      simp only [execOp, Sem.run_bind, Instr.alloc, hzr, Result.andThen, newVar, newRow, run_newObj, Sem.run_pure, Goes]
      exact ⟨m', h1, h2⟩
    · exact h.elim
  ·
    rename_i t x
    split at h
    · rename_i v hv
      obtain ⟨m', h1, h2⟩ := alloc_goes (T := t) hm (cs := v.cells) (fun i u hi => by simp only [Blk.ofList] at hi; simpa using hi) h
      simp only [execOp, Sem.run_bind, Instr.box, hρ _ _ hv, Result.andThen, newVar, newRow, run_newObj, Sem.run_pure, Goes]
      exact ⟨m', h1, h2⟩
    · exact h.elim
  ·
    rename_i t n ps
    split at h
    · rename_i el vs hu hps
      split at h
      · rename_i z hz
        split at h
        · rename_i hc
          simp only [Bool.and_eq_true, Nat.beq_eq, Nat.ble_eq, Bool.not_eq_true'] at hc
          obtain ⟨⟨hc1, hc2⟩, hc3⟩ := hc
          have hn : n * P.cellsOf el ≠ 0 := by intro h0; rw [h0] at hc3; cases hc3
          have hc3' : P.cellsOf el ≠ 0 := by intro h0; rw [h0] at hn; simp at hn
          split at h
          · rename_i cs hcs
            obtain ⟨zv, hzv, hzr⟩ := zero_sound hz
            have hinf : ∃ i, P.info? el = some i := by
              cases hi : P.info? el with
              | none => simp [Program.cellsOf, hi] at hc3'
              | some i => exact ⟨i, rfl⟩
            obtain ⟨i, hinf⟩ := hinf
            obtain ⟨m', h1, h2⟩ := alloc_goes (T := el) hm (cs := cs.toArray) (fun j u hj => by simp only [Blk.ofList] at hj; simpa using hj) h
            have hp := parts_sound hρ _ _ hps
            have hsz : zv.cells.size = P.cellsOf el := by rw [← hc1, ← hzv]; simp
            have hrow : ((List.replicate n z).flatten) = ((Array.range (n * P.cellsOf el)).map (zv.cells[· % zv.cells.size]!)).toList := by
              apply List.ext_getElem?
              intro j
              rw [flatten_replicate, hc1]
              by_cases hj : j < n * P.cellsOf el
              · rw [if_pos hj]
                have hjm : j % P.cellsOf el < z.length := by rw [hc1]; exact Nat.mod_lt _ (by omega)
                have := zeroCells_get zv.cells n j (z[j % P.cellsOf el]'hjm) (by rw [hsz]; exact hj) (by rw [hzv, hsz, List.getElem?_eq_getElem hjm])
                rw [Builtin.zeroCells, hsz] at this
                rw [hsz, List.getElem?_eq_getElem hjm, ← this, Array.getElem?_toList]
              · rw [if_neg hj, List.getElem?_eq_none (by simp; omega)]
            have hfill := fillL_sound (place := fun i => some (i * P.cellsOf el, P.cellsOf el)) vs ((Array.range (n * P.cellsOf el)).map (zv.cells[· % zv.cells.size]!)) cs (by rw [← hrow]; exact hcs)
            have e3 : (ps.map fun x => match x with | (i, x) => (i, e x)) = vs.toArray := by rw [← hp]; apply Array.ext'; simp
            simp only [execOp, e3]
            have hbig : ¬ (n * P.cellsOf el > 2 ^ 24) := by omega
            simp only [Sem.run_bind, Instr.buildSlice, run_underlying hu, Result.andThen, run_sizeOf w hinf, hbig, if_false, hn, Sem.run_pure, hzr, hfill, newRow, run_newObj, Goes]
            exact ⟨m', h1, h2⟩
          · exact h.elim
        · exact h.elim
      · exact h.elim
    · exact h.elim
  ·
    rename_i t a x
    split at h
    · rename_i p v hp hv
      obtain ⟨b, o, rfl, h⟩ := ckP_some h
      split at h
      · rename_i hc
        simp only [Bool.and_eq_true, Nat.beq_eq] at hc
        obtain ⟨i, hinf⟩ := info_some hc.2
        have hsz : v.cells.size = P.cellsOf t := by rw [← hc.1]; simp
        have key : ∀ m' w', (storeCells ⟨b, o, none⟩ v.cells.toList).run P w = .ok () w' → RepM w0 m' w' ∧ K undef m' →
            Goes P (fun v w' => ∃ m', RepM w0 m' w' ∧ K v m') ((execOp e { dst := dst, op := .store t a x, type := type, pos := pos, after := after, guard := guard }).run P w) := by
          intro m' w' h1 h2
          simp only [execOp, Sem.run_bind, Instr.storeAt, hρ _ _ hp, hρ _ _ hv, Instr.sureAddr, storeVar, run_sizeOf w hinf, Result.andThen, Sem.run_pure, hsz, ne_eq, not_true_eq_false, if_false, h1, Goes]
          exact ⟨m', h2⟩
        split at h
        · obtain ⟨m', w', h1, h2, h3⟩ := stL_sound (P := P) _ o 0 m w _ hm h
          exact key m' w' h1 ⟨h2, h3⟩
        · split at h
          · rename_i hone
            obtain ⟨f, hb, hw, hof, h⟩ := h
            have hst := run_st (P := P) hm hb hof hone .plain
            refine key _ _ ?_ ⟨hm.setCell hb hw hof, h⟩
            have : v.cells = #[v] := by cases v <;> first | rfl | (simp [oneC] at hone)
            simp [this, storeCells, add_plain, hst, Result.andThen]
          · exact h.elim
      · exact h.elim
    · exact h.elim
  ·
    rename_i t l c
    split at h
    · rename_i el kl l' kc c' hu hl hc
      split at h
      · rename_i z hz
        split at h
        · rename_i hc1
          simp only [Bool.and_eq_true, Nat.beq_eq, Bool.not_eq_true'] at hc1
          have hc3' : P.cellsOf el ≠ 0 := by intro h0; have := hc1.2; rw [h0] at this; cases this
          have hinf : ∃ i, P.info? el = some i := by
            cases hi : P.info? el with
            | none => simp [Program.cellsOf, hi] at hc3'
            | some i => exact ⟨i, rfl⟩
          obtain ⟨i, hinf⟩ := hinf
          obtain ⟨zv, hzv, hzr⟩ := zero_sound hz
          rw [← hzv] at h
          obtain ⟨v, m', w', h1, h2, h3⟩ := mkSlice_sound (kl := kl) (kc := kc) hm hinf hzr (by rw [← hc1.1, ← hzv]; simp) hc3' hu h
          simp only [execOp, Sem.run_bind, hρ _ _ hl, hρ _ _ hc, h1, Result.andThen, Sem.run_pure, Goes]
          exact ⟨m', h2, h3⟩
        · exact h.elim
      · exact h.elim
    · exact h.elim
  ·
    rename_i sT dT x
    split at h
    · rename_i el a n c hs hd hx
      split at h
      · rename_i hel
        unfold rdBytes at h
        split at h
        · simp only [execOp, Sem.run_bind, hρ _ _ hx, run_convert_bytes_string w _ _ _ _ _ _ hs hel hd, Conv.bytesToString, Result.andThen, Sem.run_pure, Goes]
          exact ⟨m, hm, h⟩
        · obtain ⟨s, h1, h2, h3⟩ := h
          simp only [execOp, Sem.run_bind, hρ _ _ hx, run_convert_bytes_string w _ _ _ _ _ _ hs hel hd, bytesToString_sound hm h1 h2, Result.andThen, Sem.run_pure, Goes]
          exact ⟨m, hm, h3⟩
        · exact h.elim
      · exact h.elim
    · rename_i el s hs hd hx
      split at h
      · rename_i hel
        obtain ⟨v, m', w', h1, h2, h3⟩ := stringToBytes_sound (P := P) (el := el) hm h
        simp only [execOp, Sem.run_bind, hρ _ _ hx, convert, run_underlying hs, run_underlying hd, run_underlying hel, h1, Result.andThen, Sem.run_pure, Goes]
        exact ⟨m', h2, h3⟩
      · exact h.elim
    · exact h.elim
  ·
    rename_i args ats
    split at h
    · rename_i x y t tx rest hargs hats
      split at h
      · rename_i vx vy hx hy
        have ha : args = #[x, y] := by rw [← Array.toArray_toList (xs := args), hargs]
        subst ha
        have h0 : ats[0]? = some t := by rw [← Array.getElem?_toList, hats]; rfl
        have h1 : ats[1]? = some tx := by rw [← Array.getElem?_toList, hats]; rfl
        unfold appendE at h
        split at h
        · rename_i el a len cap hu
          split at h
          · rename_i z ex a' n c' hz hux
            split at h
            · rename_i hc1
              simp only [Nat.beq_eq] at hc1
              obtain ⟨zv, hzv, hzr⟩ := zero_sound hz
              obtain ⟨new, h, hnl, hnew⟩ := rdRow_sound (P := P) hm h (P.cellsOf el) n n c' rfl
              obtain ⟨i, hinf⟩ : ∃ i, P.info? el = some i := by
                unfold zeroCells at hz
                cases hi : P.info? el with
                | none => simp [hi] at hz
                | some i => exact ⟨i, rfl⟩
              rw [← hzv] at h
              have hnew' : ∀ d, (Builtin.firstCells (P.cellsOf el) n (.slice a' n c')).run P { w with drawn := d } = .ok new.toArray { w with drawn := d } := by
                intro d
                cases a' with
                | none => simp [Builtin.firstCells] at hnew ⊢; exact hnew
                | some ad => simp only [Builtin.firstCells] at hnew ⊢; exact loadCells_drawn hnew d
              obtain ⟨a2, c2, m', w', h2, h3, h4⟩ := appendC_sound (P := P) (ty := type) hm hinf (by simp [Program.cellsOf, hinf]) (by simp [Program.bytesOf, hinf]) hzr (by rw [← hc1, ← hzv]; simp) hu hux (.inl ⟨_, rfl⟩) hnl
                (by simp [Builtin.lenOf]) hnew hnew' h ats h0 h1
              simp [execOp, resolve, invoke, builtin, hρ _ _ hx, hρ _ _ hy, h2, Result.andThen, Goes]
              exact ⟨m', h3, h4⟩
            · exact h.elim
          · rename_i z s hz hux
            split at h
            · rename_i hc1
              simp only [Bool.and_eq_true, Nat.beq_eq] at hc1
              obtain ⟨zv, hzv, hzr⟩ := zero_sound hz
              obtain ⟨i, hinf⟩ : ∃ i, P.info? el = some i := by
                unfold zeroCells at hz
                cases hi : P.info? el with
                | none => simp [hi] at hz
                | some i => exact ⟨i, rfl⟩
              rw [← hzv] at h
              have hfs : ∀ w, (Builtin.firstCells (P.cellsOf el) s.size (.string s)).run P w = .ok (bytesV s).toArray w := by
                intro w
                rw [hc1.2, firstCells_string, List.take_of_length_le (by rw [bytesV_length]; exact Nat.le_refl _)]
              obtain ⟨a2, c2, m', w', h2, h3, h4⟩ := appendC_sound (P := P) (ty := type) hm hinf (by simp [Program.cellsOf, hinf]) (by simp [Program.bytesOf, hinf]) hzr (by rw [← hc1.1, ← hzv]; simp) hu hux (.inr rfl) (by rw [bytesV_length, hc1.2]; simp)
                (by simp [Builtin.lenOf]) (hfs w) (fun d => hfs _) h ats h0 h1
              simp [execOp, resolve, invoke, builtin, hρ _ _ hx, hρ _ _ hy, h2, Result.andThen, Goes]
              exact ⟨m', h3, h4⟩
            · exact h.elim
          · exact h.elim
        · exact h.elim
      · exact h.elim
    · exact h.elim
  ·
    rename_i args ats
    split at h
    · rename_i x y t rest hargs hats
      have ha : args = #[x, y] := by rw [← Array.toArray_toList (xs := args), hargs]
      subst ha
      have h0 : ats[0]? = some t := by rw [← Array.getElem?_toList, hats]; rfl
      split at h
      · rename_i el a dl dc a' sl sc hu hx hy
        split at h
        · rename_i hinf
          obtain ⟨i, hinf⟩ := info_some hinf
          obtain ⟨new, h, hnl, hrd⟩ := rdRow_sound (P := P) hm h (P.cellsOf el) (Nat.min sl dl) sl sc rfl
          obtain ⟨v, m', w', h2, h3, h4⟩ := copy_sound (P := P) (ty := type) (dc := dc) hm hinf hu (y := .slice a' sl sc) (by simp [Builtin.lenOf]) hrd ats h0 (K := K) (a := a) (dl := dl) h
          simp [execOp, resolve, invoke, builtin, hρ _ _ hx, hρ _ _ hy, h2, Result.andThen, Goes]
          exact ⟨m', h3, h4⟩
        · exact h.elim
      · rename_i el a dl dc s hu hx hy
        split at h
        · split at h
          · rename_i hc1
            simp only [Bool.and_eq_true, Nat.beq_eq] at hc1
            obtain ⟨i, hinf⟩ := info_some hc1.2
            obtain ⟨v, m', w', h2, h3, h4⟩ := copy_sound (P := P) (ty := type) (dc := dc) (sl := s.size) hm hinf hu (y := .string s) (by simp [Builtin.lenOf]) (by rw [hc1.1]; exact firstCells_string s _ w) ats h0 (K := K) (a := a) (dl := dl) h
            simp [execOp, resolve, invoke, builtin, hρ _ _ hx, hρ _ _ hy, h2, Result.andThen, Goes]
            exact ⟨m', h3, h4⟩
          · exact h.elim
        · exact h.elim
      · exact h.elim
    · exact h.elim
  ·
    rename_i f args ats
    split at h
    · rename_i vs hvs
      have h1 := vals_sound hρ _ _ hvs
      have h2 := hfn f
      have h3 : args.map e = vs.toArray := by rw [← h1]; apply Array.ext'; simp
      obtain ⟨h4, h5⟩ := h w hm
      simp only [execOp, resolve, Sem.run_bind, h2, Deferred.ofValue, Sem.run_pure, Result.andThen, invoke, h3, Array.append_empty, Array.empty_append, h4, Goes]
      refine h5.mono ?_
      rintro en w' ⟨v, m', rfl, h6, h7⟩
      exact ⟨v, rfl, m', h6, unR_val h7⟩
    · exact h.elim
  · exact h.elim

structure Ext (w w' : World) : Prop where
  tape : w'.tape = w.tape
  os : w'.os = w.os
  output : w'.output = w.output
  size : w.heap.size ≤ w'.heap.size
  old : ∀ b, b < w.heap.size → w'.heap[b]? = w.heap[b]?
theorem Ext.refl (w : World) : Ext w w := ⟨rfl, rfl, rfl, Nat.le_refl _, fun _ _ => rfl⟩
theorem Ext.trans {w w' w'' : World} (h : Ext w w') (h' : Ext w' w'') : Ext w w'' :=
  ⟨h'.tape.trans h.tape, h'.os.trans h.os, h'.output.trans h.output, Nat.le_trans h.size h'.size, fun b hb => (h'.old b (Nat.lt_of_lt_of_le hb h.size)).trans (h.old b hb)⟩
theorem RepM.ext {w' : World} (h : RepM w0 m w) (hx : Ext w w') : RepM w0 m w' := by
  refine ⟨hx.tape.trans h.tape, hx.os.trans h.os, hx.output.trans h.output, h.size0, Nat.le_trans h.size hx.size, fun b hb => ?_, fun b f hb => ?_⟩
  · rw [hx.old b (Nat.lt_of_lt_of_le hb (Nat.le_trans h.size0 h.size))]; exact h.old b hb
  · obtain ⟨h1, h2, cs, el, fz, h3, h4⟩ := h.known b f hb
    exact ⟨h1, h2, cs, el, fz, by rw [hx.old b (Nat.lt_of_lt_of_le h1 h.size)]; exact h3, h4⟩
theorem Ext.push (w : World) (o : Obj) : Ext w { w with heap := w.heap.push o } :=
  ⟨rfl, rfl, rfl, by simp, fun b hb => by rw [Array.getElem?_push, if_neg (by omega)]⟩

theorem evNew_sound (hm : RepM w0 m w) {C : CallT} {T : FuncId → Bool} {ρ : Operand → Option Value} {e : Operand → Value} (hρ : ∀ x v, ρ x = some v → e x = v) (hfn : ∀ f, e (.func f) = .func (.func f) #[] #[]) (o : Oper) (hk : cls P T o.op = 3) {K : Value → Mem → Prop}
    (hC : C = callOK P w0) (h : evEff P C ρ o.op m K) : ∃ v w', (execOp e o).run P w = .ok (.value v) w' ∧ Ext w w' ∧ ∃ m', RepM w0 m' w' ∧ K v m' := by
  subst hC
  have hg := evEff_sound hm hρ hfn o h
  have key : ∀ s : Sem Value, (execOp e o).run P w = (s.run P w).andThen (fun v w => .ok (.value v) w) → (∀ v w', s.run P w = .ok v w' → Ext w w') →
      ∃ v w', (execOp e o).run P w = .ok (.value v) w' ∧ Ext w w' ∧ ∃ m', RepM w0 m' w' ∧ K v m' := by
    intro s hs hx
    rw [hs] at hg ⊢
    cases hr : s.run P w with
    | ok v w' => rw [hr] at hg; exact ⟨v, w', rfl, hx v w' hr, hg⟩
    | halt x w' => rw [hr] at hg; exact hg.elim
  obtain ⟨dst, op, type, pos, after, guard⟩ := o
  simp only at hk
  unfold cls at hk
  split at hk <;> first | (cases hk; done) | (split at hk <;> cases hk; done) | skip
  · rename_i t
    refine key (Instr.alloc t true (.tuple #[])) (by simp [execOp]) ?_
    intro v w' hr
    cases hz : (zeroValue t).run P w with
    | halt x w2 => simp [Instr.alloc, hz, Result.andThen] at hr
    | ok z w2 =>
      have hw2 : w2 = w := by
        unfold zeroValue typeInfo at hz
        cases hi : P.info? t with
        | none => simp [hi, Result.andThen] at hz
        | some i =>
          cases hzz : i.zero with
          | none => simp [hi, hzz, Result.andThen] at hz
          | some zv => simp [hi, hzz, Result.andThen] at hz; exact hz.2.symm
      subst hw2
      simp only [Instr.alloc, Sem.run_bind, hz, Result.andThen, newVar, newRow, run_newObj, Sem.run_pure, Result.ok.injEq] at hr
      rw [← hr.2]
      exact Ext.push _ _
  · rename_i t x
    refine key (Instr.box t (e x)) (by simp [execOp]) ?_
    intro v w' hr
    simp only [Instr.box, Sem.run_bind, Result.andThen, newVar, newRow, run_newObj, Sem.run_pure, Result.ok.injEq] at hr
    rw [← hr.2]
    exact Ext.push _ _
  · rename_i t n ps
    refine key (Instr.buildSlice t n (ps.map fun (i, x) => (i, e x))) (by simp [execOp]) ?_
    intro v w' hr
    simp only [evEff] at h
    split at h
    · rename_i el vs hu hps
      split at h
      · rename_i z hz
        split at h
        · rename_i hc
          simp only [Bool.and_eq_true, Nat.beq_eq, Nat.ble_eq, Bool.not_eq_true'] at hc
          obtain ⟨⟨hc1, hc2⟩, hc3⟩ := hc
          have hn : n * P.cellsOf el ≠ 0 := by intro h0; rw [h0] at hc3; cases hc3
          have hc3' : P.cellsOf el ≠ 0 := by intro h0; rw [h0] at hn; simp at hn
          obtain ⟨zv, hzv, hzr⟩ := zero_sound hz
          obtain ⟨i, hinf⟩ : ∃ i, P.info? el = some i := by
            cases hi : P.info? el with
            | none => simp [Program.cellsOf, hi] at hc3'
            | some i => exact ⟨i, rfl⟩
          have hbig : ¬ (n * P.cellsOf el > 2 ^ 24) := by omega
          simp only [Sem.run_bind, Instr.buildSlice, run_underlying hu, Result.andThen, run_sizeOf w hinf, hbig, if_false, hn, Sem.run_pure, hzr] at hr
          split at hr
          · simp only [newRow, Sem.run_bind, run_newObj, Result.andThen, Sem.run_pure, Result.ok.injEq] at hr
            rw [← hr.2]
            exact Ext.push _ _
          · simp at hr
        · exact h.elim
      · exact h.elim
    · exact h.elim
end
end Go.Eng
