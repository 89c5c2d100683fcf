import Derived.Test.Qxb6500974aGreatEngA
import Derived.ChangeKeysEq
import Derived.Laws.StructEq
set_option linter.all false
set_option linter.unusedSimpArgs false
namespace Go.Eng

def Yr (P : Program) (v : Value) (w : World) (r : Result Next) : Prop :=
  r = .ok (.value v) w ∨ ∃ f args, r = .ok (.enter f args) w ∧ ∀ R : Ending → World → Prop, R (.returned v) w → Calls P f args w R
def PureOk (P : Program) (T : PureT) : Prop :=
  ∀ f vs v, T f vs = some v → ∀ w, (callFunc f vs.toArray).run P w = .ok (.enter f vs.toArray) w ∧ ∀ R : Ending → World → Prop, R (.returned v) w → Calls P f vs.toArray w R

section
variable {P : Program}

theorem withV_some {x : Option Value} {K : Value → Prop} (h : withV x K) : ∃ v, x = some v ∧ K v := by
  cases x with
  | none => exact h.elim
  | some v => exact ⟨v, rfl, h⟩
theorem ckP_some {p : Option Addr} {K : Nat → Nat → Prop} (h : ckP p K) : ∃ b o, p = some ⟨b, o, none⟩ ∧ K b o := by
  match p, h with
  | some ⟨b, o, none⟩, h => exact ⟨b, o, rfl, h⟩
theorem ifB_cases {b : Bool} {A B : Prop} (h : ifB b A B) : (b = true ∧ A) ∨ (b = false ∧ B) := by
  cases b
  · exact .inr ⟨rfl, h⟩
  · exact .inl ⟨rfl, h⟩
theorem mulC_eq (j sz : Nat) : mulC j sz = j * sz := by
  unfold mulC; split <;> simp
theorem add_plain (b o n : Nat) : Addr.add ⟨b, o, none⟩ n = ⟨b, o + n, none⟩ := by
  unfold Addr.add; split <;> simp_all
theorem info_some {t : TypeId} (h : (P.info? t).isSome = true) : ∃ i, P.info? t = some i := Option.isSome_iff_exists.1 h

theorem part_plain (w : World) {t : TypeId} {d : TypeDesc} (hd : P.underlying t = some d) (ha : isAggD d = false) (cs : Array Value) (off : Nat) (v : Value) (h : cs[off]? = some v) :
    (part t cs off).run P w = .ok v w := by
  have : (isAgg t).run P w = .ok false w := by
    simp only [isAgg, Sem.run_bind, run_underlying hd, Result.andThen]
    cases d <;> simp_all [isAggD]
  simp [part, this, h, Result.andThen]

theorem eqFields_plain (d : Nat) (w : World) : ∀ (fs : List Field) (pre xs py ys : List Value) (b : Bool), pre.length = py.length →
    (∀ j f, fs[j]? = some f → f.name ≠ "_" ∧ f.offset = pre.length + j) → eqL P fs xs ys = some b →
    (Op.eqFields (d + 1) (pre ++ xs).toArray (py ++ ys).toArray fs).run P w = .ok b w
  | [], pre, xs, py, ys, b, hp, hf, he => by
    cases xs <;> cases ys <;> simp [eqL] at he
    subst he
    simp [Op.eqFields]
  | f :: fs, pre, xs, py, ys, b, hp, hf, he => by
    match xs, ys, he with
    | x :: xs, y :: ys, he =>
    obtain ⟨hn, ho⟩ := hf 0 f rfl
    have hx0 : (pre ++ x :: xs).toArray[f.offset]? = some x := by simp [ho]
    have hy0 : (py ++ y :: ys).toArray[f.offset]? = some y := by simp [ho, hp]
    have ih := fun b' he' => eqFields_plain d w fs (pre ++ [x]) xs (py ++ [y]) ys b' (by simp [hp]) (fun j g hg => by
      have := hf (j + 1) g (by simpa using hg); simp only [List.length_append, List.length_cons, List.length_nil]; exact ⟨this.1, by omega⟩) he'
    simp only [List.append_assoc, List.singleton_append] at ih
    have key : ∀ dd c b', P.underlying f.type = some dd → isAggD dd = false → (Op.equalIn (d + 1) f.type x y).run P w = .ok c w → eqL P fs xs ys = some b' → (c && b') = b →
        (Op.eqFields (d + 1) (pre ++ x :: xs).toArray (py ++ y :: ys).toArray (f :: fs)).run P w = .ok b w := by
      intro dd c b' hu ha h1 h2 h3
      simp only [Op.eqFields, ne_eq, hn, not_false_eq_true, if_true, Sem.run_bind, part_plain w hu ha _ _ _ hx0, part_plain w hu ha _ _ _ hy0, Result.andThen, h1]
      cases c with
      | false => simp at h3; subst h3; simp
      | true => simp at h3; subst h3; simpa using ih b' h2
    simp only [eqL] at he
    split at he
    · rename_i k0 k a k' c hu
      split at he
      · rename_i hkk
        cases h2 : eqL P fs xs ys with
        | none => simp [h2] at he
        | some b' =>
          simp [h2] at he
          refine key (.int k0) (a == c) b' hu rfl ?_ h2 he
          simp at hkk
          simp [Op.equalIn, run_underlying hu, hkk, Result.andThen]
      · cases he
    · rename_i a c hu
      cases h2 : eqL P fs xs ys with
      | none => simp [h2] at he
      | some b' =>
        simp [h2] at he
        refine key .bool (a == c) b' hu rfl ?_ h2 he
        simp [Op.equalIn, run_underlying hu, Result.andThen]
    · rename_i a c hu
      cases h2 : eqL P fs xs ys with
      | none => simp [h2] at he
      | some b' =>
        simp [h2] at he
        refine key .string (a == c) b' hu rfl ?_ h2 he
        simp [Op.equalIn, run_underlying hu, Result.andThen]
    · cases he

theorem plainFs_spec {fs : List Field} (h : plainFs fs = true) (j : Nat) (f : Field) (hj : fs[j]? = some f) : f.name ≠ "_" ∧ f.offset = j := by
  simp only [plainFs, List.all_eq_true] at h
  have := h (f, j) (by rw [List.mem_zipIdx_iff_getElem?]; simpa using hj)
  simpa using this

theorem equal_d (t : TypeId) (x y : Value) : ∃ d, Op.equal t x y = Op.equalIn (d + 1) t x y := ⟨9999, rfl⟩
theorem eqV_sound {t : TypeId} {x y : Value} {K : Bool → Prop} (h : eqV P t x y K) (ox oy : Operand) :
    ∃ b, K b ∧ ∀ w, (eqGuard .eql t ox oy x y).run P w = .ok () w ∧ (eqGuard .neq t ox oy x y).run P w = .ok () w ∧ (Op.equal t x y).run P w = .ok b w := by
  unfold eqV at h
  split at h
  · rename_i a b hu
    obtain ⟨d, hd⟩ := equal_d t (.bool a) (.bool b)
    exact ⟨_, h, fun w => by rw [hd]; simp [eqGuard, Op.equalIn, run_underlying hu, Result.andThen]⟩
  · rename_i e p hu
    obtain ⟨d, hd⟩ := equal_d t (.pointer p) (.pointer none)
    refine ⟨_, h, fun w => ?_⟩
    rw [hd]
    cases p <;> simp [eqGuard, Op.equalIn, run_underlying hu, Result.andThen]
  · rename_i e a l c l' c' hu
    obtain ⟨d, hd⟩ := equal_d t (.slice a l c) (.slice none l' c')
    refine ⟨_, h, fun w => ?_⟩
    rw [hd]
    cases a <;> simp [eqGuard, Op.equalIn, run_underlying hu, Result.andThen]
  · rename_i fs xs ys hu
    split at h
    · rename_i hc
      simp only [Bool.and_eq_true, Bool.not_eq_true'] at hc
      obtain ⟨⟨h1, h2⟩, h3⟩ := hc
      split at h
      · rename_i b hb
        refine ⟨b, h, fun w => ?_⟩
        have hff : P.fieldsOf t = fs := by simp [Program.fieldsOf, hu]
        have h4 := eqFields_plain 9998 w fs.toList [] xs.toList [] ys.toList b rfl (fun j f hj => by simpa using plainFs_spec h1 j f hj) hb
        simp only [List.nil_append, Array.toArray_toList] at h4
        refine ⟨by simp [eqGuard, h3, Result.andThen], by simp [eqGuard, h3, Result.andThen], ?_⟩
        show (Op.equalIn (9999 + 1) t (.agg xs) (.agg ys)).run P w = _
        rw [run_equalIn_struct w 9999 t xs ys (by rw [hff]; exact hu) h2, hff]
        exact h4
      · exact h.elim
    · exact h.elim
  · exact h.elim

theorem intOp_sound {op : BinOp} {t : TypeId} {k : IntKind} {a b : Int} {K : Value → Prop} (h : intOp op k a b K) :
    ∃ v, K v ∧ ∀ w, (binOp op t (.int k a) (.int k b)).run P w = .ok v w := by
  cases op <;> simp only [intOp] at h <;>
    first
      | exact h.elim
      | exact ⟨_, h, fun w => by simp [binOp, Op.intArith, Op.intBits, Op.intCmp, bAnd, bOr, bXor, bAndNot]⟩
      | exact ⟨_, h.2, fun w => by simp [binOp, Op.intDiv, h.1]⟩

theorem binV_sound {op : BinOp} {t : TypeId} {x y : Value} {K : Value → Prop} (h : binV P op t x y K) (ox oy : Operand) :
    ∃ v, K v ∧ ∀ w, (eqGuard op t ox oy x y).run P w = .ok () w ∧ (binOp op t x y).run P w = .ok v w := by
  unfold binV at h
  split at h
  · rename_i k a k' b
    have g : ∀ w, (eqGuard op t ox oy (.int k a) (.int k' b)).run P w = .ok () w := fun w => by cases op <;> simp [eqGuard]
    split at h
    · exact ⟨_, h.2, fun w => ⟨g w, by have := h.1; simp only [binOp, Op.shift, shlV]; rw [if_neg (by omega)]; simp⟩⟩
    · exact ⟨_, h.2, fun w => ⟨g w, by have := h.1; simp only [binOp, Op.shift, shrV]; rw [if_neg (by omega)]; simp⟩⟩
    · split at h
      · rename_i hk
        simp at hk
        subst hk
        obtain ⟨v, hK, hr⟩ := intOp_sound (P := P) (t := t) h
        exact ⟨v, hK, fun w => ⟨g w, hr w⟩⟩
      · exact h.elim
  · rename_i a b
    have g : ∀ w, (eqGuard op t ox oy (.string a) (.string b)).run P w = .ok () w := fun w => by cases op <;> simp [eqGuard]
    split at h
    · exact ⟨_, h.2, fun w => ⟨g w, by have := h.1; simp only [binOp, Op.stringOp]; rw [if_neg (by omega)]; simp⟩⟩
    · exact ⟨_, h, fun w => ⟨g w, by simp [binOp, Op.stringOp]⟩⟩
    · exact ⟨_, h, fun w => ⟨g w, by simp [binOp, Op.stringOp]⟩⟩
    · exact h.elim
  · rename_i hx hy
    split at h
    · obtain ⟨b, hK, hr⟩ := eqV_sound h ox oy
      refine ⟨_, hK, fun w => ⟨(hr w).1, ?_⟩⟩
      have h3 := (hr w).2.2
      unfold eqV at h
      split at h <;> first | (simp only [binOp]; simp [h3, Result.andThen]; done) | exact h.elim
    · obtain ⟨b, hK, hr⟩ := eqV_sound h ox oy
      refine ⟨_, hK, fun w => ⟨(hr w).2.1, ?_⟩⟩
      have h3 := (hr w).2.2
      unfold eqV at h
      split at h <;> first | (simp only [binOp]; simp [h3, Result.andThen]; done) | exact h.elim
    · exact h.elim

theorem optI_sound {ρ : Operand → Option Value} {e : Operand → Value} (hρ : ∀ x v, ρ x = some v → e x = v) {x : Option Operand} {d bound : Nat} {K : Nat → Prop} (h : optI (x.map ρ) d bound K) :
    ∃ n, K n ∧ ((x = none ∧ n = d) ∨ ∃ o, x = some o ∧ n ≤ bound ∧ ∀ w c, (Instr.sliceBound (e o) bound c).run P w = .ok n w) := by
  cases x with
  | none => exact ⟨d, h, .inl ⟨rfl, rfl⟩⟩
  | some o =>
    simp only [Option.map_some, optI] at h
    split at h
    · rename_i heq; simp at heq
    · rename_i k i heq
      simp at heq
      have := hρ _ _ heq
      obtain ⟨h1, h2, h3⟩ := h
      refine ⟨_, h3, .inr ⟨o, rfl, by omega, fun w c => ?_⟩⟩
      simp [Instr.sliceBound, this, asIntOf, h1, h2, Result.andThen]
    · exact h.elim

theorem bounds_sound {ρ : Operand → Option Value} {e : Operand → Value} (hρ : ∀ x v, ρ x = some v → e x = v) {lo hi mx : Option Operand} {isS : Bool} {len cap : Nat} {K : Nat → Nat → Nat → Prop}
    (h : optI (mx.map ρ) cap cap fun m => match mx.map ρ, hi.map ρ with
      | some _, none => False
      | _, _ => optI (hi.map ρ) len m fun h => optI (lo.map ρ) 0 h fun l => K l h m) :
    ∃ l h m, K l h m ∧ ∀ w, (Instr.sliceBounds isS len cap (lo.map e) (hi.map e) (mx.map e)).run P w = .ok (l, h, m) w := by
  obtain ⟨m, hm, hm'⟩ := optI_sound (P := P) hρ h
  split at hm
  · exact hm.elim
  · rename_i hne
    obtain ⟨hh, hK, hh'⟩ := optI_sound (P := P) hρ hm
    obtain ⟨l, hK, hl'⟩ := optI_sound (P := P) hρ hK
    refine ⟨l, hh, m, hK, fun w => ?_⟩
    rcases hm' with ⟨rfl, rfl⟩ | ⟨om, rfl, _, hm'⟩ <;> rcases hh' with ⟨rfl, rfl⟩ | ⟨oh, rfl, _, hh'⟩ <;> rcases hl' with ⟨rfl, rfl⟩ | ⟨ol, rfl, _, hl'⟩ <;>
      first
        | (simp at hne; done)
        | simp [Instr.sliceBounds, Result.andThen, *]

theorem slA_some (b o l m size : Nat) : slA (some ⟨b, o, none⟩) l m size = some ⟨b, if m = l then o else o + l * size, none⟩ := by
  unfold slA
  simp only [Option.map_some, add_plain]
  split <;> rfl

theorem sliceV_sound {ρ : Operand → Option Value} {e : Operand → Value} (hρ : ∀ x v, ρ x = some v → e x = v) {t : TypeId} {x : Value} {lo hi mx : Option Operand} {K : Value → Prop}
    (h : sliceV P t x (lo.map ρ) (hi.map ρ) (mx.map ρ) K) : ∃ v, K v ∧ ∀ w, (Instr.sliceAt t x (lo.map e) (hi.map e) (mx.map e)).run P w = .ok v w := by
  unfold sliceV at h
  split at h
  · rename_i s hu
    split at h
    · rename_i hmx
      cases mx with
      | some _ => simp at hmx
      | none =>
      obtain ⟨l, hh, m, hK, hr⟩ := bounds_sound (P := P) hρ (lo := lo) (hi := hi) (mx := none) (isS := false) (len := s.size) (cap := s.size) (K := fun l h _ => K (.string (s.extract l h))) (by simpa [optI] using h)
      refine ⟨_, hK, fun w => ?_⟩
      have := hr w
      simp only [Option.map_none] at this
      simp [Instr.sliceAt, Instr.slice, run_underlying hu, this, Result.andThen]
    · exact h.elim
  · rename_i e' a len cap hu
    split at h
    · rename_i hi'
      obtain ⟨i, hinfo⟩ := info_some hi'
      obtain ⟨l, hh, m, hK, hr⟩ := bounds_sound (P := P) hρ (isS := true) h
      refine ⟨_, hK, fun w => ?_⟩
      simp [Instr.sliceAt, Instr.slice, run_underlying hu, hr w, Result.andThen, run_sizeOf w hinfo, slA]
    · exact h.elim
  · rename_i n e' b o hu
    split at h
    · rename_i hi'
      obtain ⟨i, hinfo⟩ := info_some hi'
      obtain ⟨l, hh, m, hK, hr⟩ := bounds_sound (P := P) hρ (isS := false) h
      refine ⟨_, hK, fun w => ?_⟩
      simp only [Instr.sliceAt, Sem.run_bind, run_underlying hu, hr w, Result.andThen, run_sizeOf w hinfo, slA, Instr.sureAddr, Sem.run_pure]
      split <;> simp
    · exact h.elim
  · exact h.elim

theorem parts_sound {ρ : Operand → Option Value} {e : Operand → Value} (hρ : ∀ x v, ρ x = some v → e x = v) : ∀ (ps : List (Nat × Operand)) (vs : List (Nat × Value)), parts ρ ps = some vs → ps.map (fun p => (p.1, e p.2)) = vs
  | [], vs, h => by simp [parts] at h; subst h; rfl
  | (i, x) :: r, vs, h => by
    simp only [parts] at h
    split at h
    · rename_i v vs' hx hr
      simp at h
      subst h
      simp [hρ _ _ hx, parts_sound hρ r vs' hr]
    · cases h
theorem vals_sound {ρ : Operand → Option Value} {e : Operand → Value} (hρ : ∀ x v, ρ x = some v → e x = v) : ∀ (xs : List Operand) (vs : List Value), vals ρ xs = some vs → xs.map e = vs
  | [], vs, h => by simp [vals] at h; subst h; rfl
  | x :: r, vs, h => by
    simp only [vals] at h
    split at h
    · rename_i v vs' hx hr
      simp at h
      subst h
      simp [hρ _ _ hx, vals_sound hρ r vs' hr]
    · cases h

theorem foldl_set (vs : List Value) : ∀ (k : Nat) (cells : Array Value) (off : Nat), off + k + vs.length ≤ cells.size →
    ((vs.zipIdx k).foldl (fun cs (c, j) => cs.setIfInBounds (off + j) c) cells).toList = cells.toList.take (off + k) ++ vs ++ cells.toList.drop (off + k + vs.length) := by
  induction vs with
  | nil => intro k cells off h; simp
  | cons v vs ih =>
    intro k cells off h
    simp only [List.zipIdx_cons, List.foldl_cons]
    rw [ih (k + 1) _ off (by simp at h ⊢; omega)]
    simp only [Array.toList_setIfInBounds, List.length_cons] at h ⊢
    apply List.ext_getElem?
    intro i
    have hs : off + k < cells.size := by omega
    simp only [List.getElem?_append, List.length_append, List.length_take, List.length_set, Array.length_toList, List.getElem?_take, List.getElem?_set, List.getElem?_drop, List.getElem?_cons, List.length_cons]
    rw [show min (off + (k + 1)) cells.size = off + k + 1 by omega, show min (off + k) cells.size = off + k by omega]
    by_cases h1 : i < off + k
    · simp [show i < off + k + 1 + vs.length by omega, show i < off + k + 1 by omega, show i < off + (k + 1) by omega, show off + k ≠ i by omega, show i < off + k + (vs.length + 1) by omega, h1]
    · by_cases h2 : i = off + k
      · subst h2
        rw [if_pos (by omega), if_pos (by omega), if_pos (by omega), if_pos rfl, if_pos (by simpa using hs), if_pos (by omega), if_neg (by omega)]
        simp
      · by_cases h3 : i < off + k + 1 + vs.length
        · simp [h3, show ¬ i < off + k + 1 by omega, show i < off + k + (vs.length + 1) by omega, h1, show ¬ i - (off + k) = 0 by omega]
          rw [show i - (off + k) - 1 = i - (off + k + 1) by omega]
        · simp [h3, show ¬ i < off + k + (vs.length + 1) by omega]
          rw [if_neg (by omega)]
          congr 1; omega

theorem fillL_sound {place : Nat → Option (Nat × Nat)} : ∀ (ps : List (Nat × Value)) (cells : Array Value) (cs : List Value), fillL place cells.toList ps = some cs → Instr.fill place cells ps = some cs.toArray
  | [], cells, cs, h => by simp [fillL] at h; subst h; simp [Instr.fill]
  | (i, v) :: rest, cells, cs, h => by
    simp only [fillL] at h
    split at h
    · cases h
    · rename_i off size hp
      split at h
      · rename_i hc
        simp only [Bool.and_eq_true, beq_iff_eq, Nat.ble_eq, Array.length_toList] at hc
        obtain ⟨h1, h2⟩ := hc
        simp only [Instr.fill, hp]
        rw [if_neg (by simp; omega)]
        refine fillL_sound rest _ cs ?_
        rw [← Array.foldl_toList, Array.toList_zipIdx, foldl_set _ 0 _ _ (by simp; omega)]
        simpa [h1] using h
      · cases h

theorem zero_sound {t : TypeId} {z : List Value} (h : zeroCells P t = some z) : ∃ v, v.cells.toList = z ∧ ∀ w, (zeroValue t).run P w = .ok v w := by
  unfold zeroCells at h
  cases hi : P.info? t with
  | none => simp [hi] at h
  | some i =>
    simp only [hi, Option.bind_some] at h
    cases hz : i.zero with
    | none => simp [hz] at h
    | some v =>
      simp [hz] at h
      exact ⟨v, h, fun w => by simp [zeroValue, run_typeInfo w hi, hz, Result.andThen]⟩

theorem sizes_mapM (w : World) : ∀ (fs : List Field) (h : ∀ f ∈ fs, (P.info? f.type).isSome = true), (fs.mapM (fun f => do pure (f.offset, ← sizeOf f.type) : Field → Sem (Nat × Nat))).run P w = .ok (fs.map fun f => (f.offset, P.cellsOf f.type)) w
  | [], _ => by simp
  | f :: fs, h => by
    obtain ⟨i, hi⟩ := info_some (h f (by simp))
    have ih := sizes_mapM w fs (fun g hg => h g (by simp [hg]))
    simp only [List.mapM_cons, Sem.run_bind, run_sizeOf w hi, Result.andThen, Sem.run_pure, ih, List.map_cons]

theorem buildV_sound {t : TypeId} {ps : List (Nat × Value)} {K : Value → Prop} (h : buildV P t (some ps) K) :
    ∃ v, K v ∧ ∀ w, (Instr.build t ps.toArray).run P w = .ok v w := by
  unfold buildV at h
  split at h
  · rename_i pl z ps' hpl hz hps
    simp at hps
    subst hps
    split at h
    · rename_i cs hcs
      refine ⟨_, h, fun w => ?_⟩
      obtain ⟨v, hv, hzr⟩ := zero_sound hz
      have hfill := fillL_sound ps v.cells cs (by rw [hv]; exact hcs)
      cases hu : P.underlying t with
      | none => simp [hu] at hpl
      | some d =>
        simp only [hu, Option.bind_some, placesOf] at hpl
        split at hpl
        · rename_i fs
          split at hpl
          · rename_i hall
            simp at hpl
            have hm := sizes_mapM (P := P) w fs.toList (fun f hf => List.all_eq_true.1 hall f hf)
            have hm' : (fs.mapM (fun f => do pure (f.offset, ← sizeOf f.type) : Field → Sem (Nat × Nat))).run P w = .ok (fs.map fun f => (f.offset, P.cellsOf f.type)) w := by
              rw [Array.mapM_eq_mapM_toList]
              simp only [Sem.run_map, hm, Result.andThen]
              simp [← Array.toList_map]
            have hpl' : pl = ((fs.map fun f => (f.offset, P.cellsOf f.type))[·]?) := by
              subst hpl
              funext i
              simp
            rw [hpl'] at hfill
            simp only [Instr.build, Sem.run_bind, hzr w, Result.andThen, run_underlying hu, hm', hfill, Sem.run_pure]
          · cases hpl
        · rename_i n e
          split at hpl
          · rename_i hi
            simp at hpl
            obtain ⟨i, hinfo⟩ := info_some hi
            subst hpl
            simp only [Instr.build, Sem.run_bind, hzr w, Result.andThen, run_underlying hu, run_sizeOf w hinfo, hfill, Sem.run_pure]
          · cases hpl
        · cases hpl
    · exact h.elim
  · exact h.elim

theorem partV_sound {t : TypeId} {cs : Array Value} {off : Nat} {K : Value → Prop} (h : partV P t cs.toList off K) : ∃ v, K v ∧ ∀ w, (part t cs off).run P w = .ok v w := by
  unfold partV at h
  split at h
  · rename_i d hu hi
    obtain ⟨i, hinfo⟩ := info_some hi
    split at h
    · rename_i ha
      refine ⟨_, h, fun w => ?_⟩
      have : (isAgg t).run P w = .ok true w := by
        simp only [isAgg, Sem.run_bind, run_underlying hu, Result.andThen]
        cases d <;> simp_all [isAggD]
      simp only [part, Sem.run_bind, this, Result.andThen, if_true, run_sizeOf w hinfo, Sem.run_pure]
      congr 3
      apply Array.ext'
      simp
    · rename_i ha
      obtain ⟨v, hv, hK⟩ := withV_some h
      exact ⟨v, hK, fun w => part_plain w hu ha cs off v (by simpa using hv)⟩
  · exact h.elim

theorem fieldPlace_plain (w : World) {b o : Nat} {fd : Field} (h : Nat.beq (P.cellsOf fd.type) 0 = false) : (fieldPlace ⟨b, o, none⟩ fd).run P w = .ok ⟨b, o + fd.offset, none⟩ w := by
  have hc : P.cellsOf fd.type ≠ 0 := by intro h0; rw [h0] at h; cases h
  cases hi : P.info? fd.type with
  | none => simp [Program.cellsOf, hi] at hc
  | some i => simp [fieldPlace, run_sizeOf w hi, hc, Result.andThen, add_plain]

theorem evPure_sound {T : PureT} (hT : PureOk P T) {ρ : Operand → Option Value} {e : Operand → Value} (hρ : ∀ x v, ρ x = some v → e x = v) (hfn : ∀ f, e (.func f) = .func (.func f) #[] #[]) (o : Oper) {K : Value → Prop} (h : evPure P T ρ o.op K) :
    ∃ v, K v ∧ ∀ w, Yr P v w ((execOp e o).run P w) := by
  obtain ⟨dst, op, type, pos, after, guard⟩ := o
  simp only at h
  unfold evPure at h
  split at h
  · rename_i x
    obtain ⟨v, hv, hK⟩ := withV_some h
    exact ⟨v, hK, fun w => .inl (by simp [execOp, hρ _ _ hv])⟩
  · rename_i x
    obtain ⟨v, hv, hK⟩ := withV_some h
    exact ⟨v, hK, fun w => .inl (by simp [execOp, hρ _ _ hv])⟩
  · rename_i c a b
    split at h
    · rename_i t ht
      rcases ifB_cases h with ⟨rfl, h⟩ | ⟨rfl, h⟩
      · obtain ⟨v, hv, hK⟩ := withV_some h
        exact ⟨v, hK, fun w => .inl (by simp [execOp, hρ _ _ hv, hρ _ _ ht, asBool, Result.andThen])⟩
      · obtain ⟨v, hv, hK⟩ := withV_some h
        exact ⟨v, hK, fun w => .inl (by simp [execOp, hρ _ _ hv, hρ _ _ ht, asBool, Result.andThen])⟩
    · exact h.elim
  · rename_i x
    split at h
    · rename_i p hp
      obtain ⟨b, o, rfl, hK⟩ := ckP_some h
      exact ⟨_, hK, fun w => .inl (by simp [execOp, hρ _ _ hp])⟩
    · exact h.elim
  · rename_i s x f
    split at h
    · rename_i fs p hu hp
      obtain ⟨b, o, rfl, hK⟩ := ckP_some h
      split at hK
      · rename_i fd hfd
        split at hK
        · exact hK.elim
        · rename_i hc
          refine ⟨_, hK, fun w => .inl ?_⟩
          have hfd' : fs[f]? = some fd := by simpa using hfd
          simp [execOp, Instr.fieldAt, run_underlying hu, hρ _ _ hp, Instr.sureAddr, hfd', fieldPlace_plain w hc, Result.andThen]
      · exact hK.elim
    · exact h.elim
  · rename_i t x f
    split at h
    · rename_i fs cs hu hp
      split at h
      · rename_i fd hfd
        obtain ⟨v, hK, hr⟩ := partV_sound h
        refine ⟨v, hK, fun w => .inl ?_⟩
        have hfd' : fs[f]? = some fd := by simpa using hfd
        simp [execOp, Instr.field, run_underlying hu, hρ _ _ hp, asAgg, hfd', hr w, Result.andThen]
      · exact h.elim
    · exact h.elim
  · rename_i t x ix
    split at h
    · rename_i n el p k i hu hp hi
      obtain ⟨b, o, rfl, h⟩ := ckP_some h
      split at h
      · rename_i hinf
        obtain ⟨inf, hinf⟩ := info_some hinf
        obtain ⟨h1, h2, h3⟩ := h
        refine ⟨_, h3, fun w => .inl ?_⟩
        simp [execOp, Instr.indexAt, run_underlying hu, hρ _ _ hp, hρ _ _ hi, asIntOf, Instr.sureAddr, h1, h2, run_sizeOf w hinf, Result.andThen, add_plain, mulC_eq]
      · exact h.elim
    · rename_i el p n c k i hu hp hi
      obtain ⟨b, o, rfl, h⟩ := ckP_some h
      split at h
      · rename_i hinf
        obtain ⟨inf, hinf⟩ := info_some hinf
        obtain ⟨h1, h2, h3⟩ := h
        refine ⟨_, h3, fun w => .inl ?_⟩
        simp [execOp, Instr.indexAt, run_underlying hu, hρ _ _ hp, hρ _ _ hi, asIntOf, Instr.sureAddr, h1, h2, run_sizeOf w hinf, Result.andThen, add_plain, mulC_eq]
      · exact h.elim
    · exact h.elim
  · rename_i t x ix
    split at h
    · rename_i s k i hu hs hi
      obtain ⟨h1, c, hc, hK⟩ := h
      refine ⟨_, hK, fun w => .inl ?_⟩
      simp [execOp, Instr.index, run_underlying hu, hρ _ _ hs, hρ _ _ hi, asIntOf, h1, hc, Result.andThen]
    · exact h.elim
  · rename_i op t x y yt
    split at h
    · rename_i vx vy hx hy
      obtain ⟨v, hK, hr⟩ := binV_sound h x y
      refine ⟨v, hK, fun w => .inl ?_⟩
      simp [execOp, hρ _ _ hx, hρ _ _ hy, (hr w).1, (hr w).2, Result.andThen]
    · exact h.elim
  · rename_i op t x
    split at h
    · rename_i vx hx
      unfold unV at h
      split at h
      · exact ⟨_, h, fun w => .inl (by simp [execOp, hρ _ _ hx, Op.unary, Op.intArith, Result.andThen])⟩
      · exact ⟨_, h, fun w => .inl (by simp [execOp, hρ _ _ hx, Op.unary, Result.andThen])⟩
      · exact ⟨_, h, fun w => .inl (by simp [execOp, hρ _ _ hx, Op.unary, Op.intBits, bXor, Result.andThen])⟩
      · exact h.elim
    · exact h.elim
  · rename_i s d x
    split at h
    · rename_i vx hx
      unfold convV at h
      split at h
      · rename_i ds k k' n hs hd
        exact ⟨_, h, fun w => .inl (by simp [execOp, hρ _ _ hx, convert, run_underlying hs, run_underlying hd, Conv.intToInt, Result.andThen])⟩
      · rename_i a hs hd
        exact ⟨_, h, fun w => .inl (by simp [execOp, hρ _ _ hx, convert, run_underlying hs, run_underlying hd, Result.andThen])⟩
      · exact h.elim
    · exact h.elim
  · rename_i t i
    split at h
    · rename_i vs hx
      obtain ⟨v, hv, hK⟩ := withV_some h
      have hv' : vs[i]? = some v := by simpa using hv
      exact ⟨v, hK, fun w => .inl (by simp [execOp, hρ _ _ hx, Instr.extract, hv', Result.andThen])⟩
    · exact h.elim
  · rename_i t x lo hi mx
    split at h
    · rename_i vx hx
      obtain ⟨v, hK, hr⟩ := sliceV_sound hρ h
      exact ⟨v, hK, fun w => .inl (by simp [execOp, hρ _ _ hx, hr w, Result.andThen])⟩
    · exact h.elim
  · rename_i t ps
    cases hps : parts ρ ps.toList with
    | none => rw [hps] at h; unfold buildV at h; split at h <;> first | exact h.elim | (rename_i h1; cases h1)
    | some vs =>
      rw [hps] at h
      obtain ⟨v, hK, hr⟩ := buildV_sound h
      have := parts_sound hρ _ _ hps
      refine ⟨v, hK, fun w => .inl ?_⟩
      have e2 : ps.map (fun (x : Nat × Operand) => (x.1, e x.2)) = vs.toArray := by rw [← this]; apply Array.ext'; simp
      simp only [execOp, Sem.run_bind]
      have e3 : (ps.map fun x => match x with | (i, x) => (i, e x)) = vs.toArray := e2
      rw [e3]
      simp [hr w, Result.andThen]
  · rename_i args ats
    split at h
    · rename_i x t hargs hats
      split at h
      · rename_i vx hx
        have ha : args = #[x] := by rw [← Array.toArray_toList (xs := args), hargs]
        have ht : ats = #[t] := by rw [← Array.toArray_toList (xs := ats), hats]
        subst ha; subst ht
        unfold lenV at h
        split at h <;> first | exact h.elim | (rename_i hu; refine ⟨_, h, fun w => .inl ?_⟩; simp [execOp, resolve, invoke, builtin, Builtin.len_, hρ _ _ hx, run_underlying hu, goInt, Result.andThen])
      · exact h.elim
    · exact h.elim
  · rename_i args ats
    split at h
    · rename_i x t hargs hats
      split at h
      · rename_i vx hx
        have ha : args = #[x] := by rw [← Array.toArray_toList (xs := args), hargs]
        have ht : ats = #[t] := by rw [← Array.toArray_toList (xs := ats), hats]
        subst ha; subst ht
        unfold capV at h
        split at h <;> first | exact h.elim | (rename_i hu; refine ⟨_, h, fun w => .inl ?_⟩; simp [execOp, resolve, invoke, builtin, Builtin.cap_, hρ _ _ hx, run_underlying hu, goInt, Result.andThen])
      · exact h.elim
    · exact h.elim
  · rename_i f args ats
    split at h
    · rename_i vs hvs
      obtain ⟨v, hv, hK⟩ := withV_some h
      refine ⟨v, hK, fun w => .inr ⟨f, vs.toArray, ?_, (hT f vs v hv w).2⟩⟩
      have h1 := vals_sound hρ _ _ hvs
      have h2 := hfn f
      have h3 : args.map e = vs.toArray := by rw [← h1]; apply Array.ext'; simp
      simp [execOp, resolve, h2, Deferred.ofValue, invoke, h3, (hT f vs v hv w).1, Result.andThen]
    · exact h.elim
  · exact h.elim
end
end Go.Eng
