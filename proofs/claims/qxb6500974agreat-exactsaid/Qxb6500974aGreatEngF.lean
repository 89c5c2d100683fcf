import Derived.Test.Qxb6500974aGreatEngE
set_option linter.all false
set_option linter.unusedSimpArgs false
namespace Go.Eng

def evOpsP (P : Program) (T : PureT) (n : Nat) (ops : List Oper) (K : Fr → Prop) : List Nat → Fr → Prop
  | [], fr => K fr
  | i :: rest, fr => match ops[i]? with
    | none => False
    | some o => match o.guard with
      | none => evPure P T (evalO fr) o.op fun v => putF n o.dst v fr fun fr => evOpsP P T n ops K rest fr
      | some (j, want) => match (ops[j]?).bind (·.dst) with
        | none => False
        | some g => match get fr g with
          | some (.bool b) => ifB b
              (match want with
               | true => evPure P T (evalO ((g, .bool true) :: fr)) o.op fun v => putF n o.dst v ((g, .bool true) :: fr) fun fr => evOpsP P T n ops K rest fr
               | false => putF n o.dst undef ((g, .bool true) :: fr) fun fr => evOpsP P T n ops K rest fr)
              (match want with
               | false => evPure P T (evalO ((g, .bool false) :: fr)) o.op fun v => putF n o.dst v ((g, .bool false) :: fr) fun fr => evOpsP P T n ops K rest fr
               | true => putF n o.dst undef ((g, .bool false) :: fr) fun fr => evOpsP P T n ops K rest fr)
          | some (.tuple vs) => match vs.toList with
            | [] => putF n o.dst undef fr fun fr => evOpsP P T n ops K rest fr
            | _ => False
          | _ => False
def andThenP (k : Fr → Prop) (K : Exit → Fr → Prop) : Exit → Fr → Prop
  | .normal => k
  | e => K e
def inBlockP (id : Nat) (K : Exit → Fr → Prop) : Exit → Fr → Prop
  | .exit j => match Nat.beq j id with | true => K .normal | false => K (.exit j)
  | e => K e
def evCodeP (P : Program) (T : PureT) (n : Nat) : Code → (Exit → Fr → Prop) → Fr → Prop
  | .skip, K, fr => K .normal fr
  | .seq a b, K, fr => evCodeP P T n a (andThenP (evCodeP P T n b K) K) fr
  | .cond x a b, K, fr => match evalO fr x with
    | some (.bool t) => ifB t (evCodeP P T n a K fr) (evCodeP P T n b K fr)
    | _ => False
  | .block id a, K, fr => evCodeP P T n a (inBlockP id K) fr
  | .exit id, K, fr => K (.exit id) fr
  | .ret, K, fr => K .ret fr
  | .region _ ops draw, K, fr => match draw with
    | false => evOpsP P T n ops.toList (K .normal) (List.range ops.toList.length) fr
    | true => False
  | _, _, _ => False
def resP (fr : Fr) : List ResultVar → (List Value → Prop) → Prop
  | [], K => K []
  | .tmp t :: r, K => withV (get fr t) fun v => resP fr r fun vs => K (v :: vs)
  | .cell _ _ :: _, _ => False
def evFnP (P : Program) (T : PureT) (f : FuncId) (args : List Value) (K : Value → Prop) : Prop :=
  match P.funcs[f]? with
  | some fn => match fn.body.isSome && Nat.ble args.length fn.ntmps with
    | true => evCodeP P T fn.ntmps (bodyOf P f) (fun e fr => match e with
        | .normal => resP fr fn.results.toList fun vs => K (mkR vs)
        | .ret => resP fr fn.results.toList fun vs => K (mkR vs)
        | _ => False) (startF 0 args)
    | false => False
  | none => False

section
variable {P : Program} {w0 : World}

theorem evOpsP_wp {T : PureT} (hT : PureOk P T) {n : Nat} {ops : List Oper} {K : Fr → Prop} {Q : Exit → Act → World → Prop} {w : World} (hQ : ∀ a fr, RepF n fr a → K fr → Q .normal a w) :
    ∀ (l : List Nat) (fr : Fr) (a : Act), RepF n fr a → evOpsP P T n ops K l fr → wpOps P ops.toArray Q l a w
  | [], fr, a, hf, h => hQ a fr hf h
  | i :: rest, fr, a, hf, h => by
    simp only [evOpsP] at h
    split at h
    · exact h.elim
    · rename_i o ho
      have ho' : ops.toArray[i]? = some o := by simpa using ho
      simp only [wpOps, ho']
      have run : ∀ fr', RepF n fr' a → Region.wanted o (yielded ops.toArray a.tmps) = true → (evPure P T (evalO fr') o.op fun v => putF n o.dst v fr' fun fr => evOpsP P T n ops K rest fr) →
          if Region.wanted o (yielded ops.toArray a.tmps) = true then o.wp P a w (wpOps P ops.toArray Q rest) Q ∨ (o.asks P a w ∧ LetsOut Q) else wpOps P ops.toArray Q rest (a.put o.dst undef) w := by
        intro fr' hf' hw h
        rw [if_pos hw]
        obtain ⟨v, hv, hr⟩ := evPure_sound hT hf'.eval (fun f => rfl) o h
        obtain ⟨fr2, hf2, h2⟩ := hf'.put hv
        exact .inl (yr_wp (hr w) (evOpsP_wp hT hQ rest fr2 _ hf2 h2))
      have skip : ∀ fr', RepF n fr' a → Region.wanted o (yielded ops.toArray a.tmps) = false → (putF n o.dst undef fr' fun fr => evOpsP P T n ops K rest fr) →
          if Region.wanted o (yielded ops.toArray a.tmps) = true then o.wp P a w (wpOps P ops.toArray Q rest) Q ∨ (o.asks P a w ∧ LetsOut Q) else wpOps P ops.toArray Q rest (a.put o.dst undef) w := by
        intro fr' hf' hw h
        rw [if_neg (by simp [hw])]
        obtain ⟨fr2, hf2, h2⟩ := hf'.put h
        exact evOpsP_wp hT hQ rest fr2 _ hf2 h2
      split at h
      · rename_i hg
        exact run fr hf (wanted_none hg) h
      · rename_i j want hg
        split at h
        · exact h.elim
        · rename_i g hd
          have hd' : (ops.toArray[j]?).bind (·.dst) = some g := by simpa using hd
          split at h
          · rename_i b hb
            have hs := hf.slot g _ hb
            rcases ifB_cases h with ⟨rfl, h'⟩ | ⟨rfl, h'⟩
            · cases want
              · exact skip _ (hf.refine hb) (by rw [wanted_bool hg hd' hs]; rfl) h'
              · exact run _ (hf.refine hb) (by rw [wanted_bool hg hd' hs]; rfl) h'
            · cases want
              · exact run _ (hf.refine hb) (by rw [wanted_bool hg hd' hs]; rfl) h'
              · exact skip _ (hf.refine hb) (by rw [wanted_bool hg hd' hs]; rfl) h'
          · rename_i vs hb
            split at h
            · rename_i hvs
              have hs := hf.slot g _ hb
              have : vs = #[] := by rw [← Array.toArray_toList (xs := vs), hvs]
              subst this
              exact skip _ hf (wanted_undef hg hd' hs) h
            · exact h.elim
          · exact h.elim

def PostP (n : Nat) (w : World) (K : Exit → Fr → Prop) : Exit → Act → World → Prop
  | .panic _, _, _ => False
  | .outgrown, _, _ => False
  | .goto _, _, _ => False
  | e, a, w' => w' = w ∧ ∃ fr, RepF n fr a ∧ K e fr

theorem evCodeP_sound {T : PureT} (hT : PureOk P T) {n : Nat} {w : World} : ∀ (cd : Code) (K : Exit → Fr → Prop) (fr : Fr) (a : Act), RepF n fr a → evCodeP P T n cd K fr → cd.wp P (PostP n w K) a w
  | .skip, K, fr, a, hf, h => wp_skip ⟨rfl, fr, hf, h⟩
  | .seq x y, K, fr, a, hf, h => by
    refine wp_seq (wp_mono (evCodeP_sound hT x _ fr a hf h) ?_)
    intro e a' w' hq
    cases e with
    | normal =>
      obtain ⟨rfl, fr', hf', h'⟩ := hq
      exact evCodeP_sound hT y K fr' a' hf' h'
    | exit id => exact hq
    | ret => exact hq
    | goto l => exact hq
    | panic ch => exact hq
    | outgrown => exact hq
  | .cond x A B, K, fr, a, hf, h => by
    simp only [evCodeP] at h
    split at h
    · rename_i t ht
      have he := hf.eval _ _ ht
      rcases ifB_cases h with ⟨rfl, h⟩ | ⟨rfl, h⟩
      · exact wp_cond_true he (evCodeP_sound hT A K fr a hf h)
      · exact wp_cond_false he (evCodeP_sound hT B K fr a hf h)
    · exact h.elim
  | .block id x, K, fr, a, hf, h => by
    refine wp_block (wp_mono (evCodeP_sound hT x _ fr a hf h) ?_)
    intro e a' w' hq
    cases e with
    | normal => exact hq
    | exit j =>
      obtain ⟨hw, fr', hf', h'⟩ := hq
      simp only [inBlockP] at h'
      simp only [Exit.inBlock]
      by_cases hj : j = id
      · subst hj
        simp only [Nat.beq_refl] at h'
        rw [if_pos rfl]
        exact ⟨hw, fr', hf', h'⟩
      · have hj' : Nat.beq j id = false := by
          cases hb : Nat.beq j id with
          | false => rfl
          | true => exact absurd (Nat.eq_of_beq_eq_true hb) hj
        simp only [hj'] at h'
        rw [if_neg hj]
        exact ⟨hw, fr', hf', h'⟩
    | ret => exact hq
    | goto l => exact hq
    | panic ch => exact hq
    | outgrown => exact hq
  | .exit id, K, fr, a, hf, h => wp_exit ⟨rfl, fr, hf, h⟩
  | .ret, K, fr, a, hf, h => wp_ret ⟨rfl, fr, hf, h⟩
  | .region id ops draw, K, fr, a, hf, h => by
    simp only [evCodeP] at h
    cases draw with
    | false =>
      have := evOpsP_wp (Q := PostP n w K) (w := w) hT (fun a fr hf hk => ⟨rfl, fr, hf, hk⟩) _ fr a hf h
      refine wp_region ?_
      simpa using this
    | true => exact h.elim
  | .loop _, _, _, _, _, h => h.elim
  | .rangeFunc .., _, _, _, _, h => h.elim
  | .scope _, _, _, _, _, h => h.elim
  | .label _, _, _, _, _, h => h.elim
  | .goto _, _, _, _, _, h => h.elim
  | .refuse _, _, _, _, _, h => h.elim

theorem resP_sound {n : Nat} {fr : Fr} {a : Act} {w : World} (hf : RepF n fr a) (g : ResultVar → Sem Value) (hg1 : ∀ t, g (.tmp t) = pure (a.tmps.getD t undef)) :
    ∀ (rs : List ResultVar) (K : List Value → Prop), resP fr rs K → ∃ vs, K vs ∧ (rs.mapM g).run P w = .ok vs w
  | [], K, h => ⟨[], h, by simp⟩
  | .tmp t :: r, K, h => by
    obtain ⟨v, hv, h⟩ := withV_some h
    obtain ⟨vs, hK, hr⟩ := resP_sound (w := w) hf g hg1 r _ h
    refine ⟨_, hK, ?_⟩
    have hs := hf.slot t v hv
    simp [List.mapM_cons, hg1, hr, Result.andThen, Array.getD_eq_getD_getElem?, hs]
  | .cell x t :: r, K, h => h.elim

structure Bx (p : Prop) : Prop where
  out : p
theorem evFnP_sound {T : PureT} {f : FuncId} {args : List Value} {K : Value → Prop} (hT : PureOk P T) (h : Bx (evFnP P T f args K)) (w : World) (R : Ending → World → Prop) (hR : ∀ v, K v → R (.returned v) w) : Calls P f args.toArray w R := by
  replace h := h.out
  unfold evFnP at h
  split at h
  · rename_i fn hfn
    split at h
    · rename_i hle
      simp only [Bool.and_eq_true, Nat.ble_eq] at hle
      obtain ⟨hbs, hle'⟩ := hle
      obtain ⟨body, hb⟩ := Option.isSome_iff_exists.1 hbs
      have hbo : bodyOf P f = body := by simp [bodyOf, hfn, hb]
      rw [hbo] at h
      refine calls_of_wp hfn hb ?_
      have hf : RepF fn.ntmps (startF 0 args) { tmps := args.toArray ++ Array.replicate (fn.ntmps - args.toArray.size) undef, defers := [] } := by
        refine ⟨by simp; omega, rfl, fun i v hi => ?_⟩
        obtain ⟨_, h2⟩ := startF_get args 0 i v hi
        simp only [Nat.sub_zero] at h2
        have hlt : i < args.length := by
          rcases Nat.lt_or_ge i args.length with h' | h'
          · exact h'
          · simp [List.getElem?_eq_none h'] at h2
        rw [Array.getElem?_append_left (by simpa using hlt)]
        simpa using h2
      refine wp_mono (evCodeP_sound (w := w) hT body _ _ _ hf h) ?_
      have fin : ∀ a' fr', RepF fn.ntmps fr' a' → resP fr' fn.results.toList (fun vs => K (mkR vs)) → a'.defers = [] ∧ ∃ v, (results fn a'.tmps).run P w = .ok v w ∧ R (.returned v) w := by
        intro a' fr' hf' h'
        have hres : ∃ vs, K (mkR vs) ∧ (results fn a'.tmps).run P w = .ok (mkR vs) w := by
          unfold results
          rw [Array.mapM_eq_mapM_toList]
          simp only [Sem.run_bind, Sem.run_map]
          generalize hgg : (fun x => match x with | .tmp t => pure (a'.tmps.getD t undef) | .cell a t => do loadVar t (← asAddr (a'.tmps.getD a undef)) : ResultVar → Sem Value) = g
          obtain ⟨vs, hK, hr⟩ := resP_sound (P := P) (w := w) hf' g (fun t => by rw [← hgg]) _ _ h'
          refine ⟨vs, hK, ?_⟩
          rw [hr]
          simp only [Result.andThen, Sem.run_pure]
          match vs with
          | [] => rfl
          | [v] => rfl
          | v :: u :: r => simp [mkR]
        obtain ⟨vs, hK, hr⟩ := hres
        exact ⟨hf'.defers, mkR vs, hr, hR _ hK⟩
      intro e a' w' hq
      cases e with
      | normal => obtain ⟨rfl, fr', hf', h'⟩ := hq; exact fin a' fr' hf' h'
      | ret => obtain ⟨rfl, fr', hf', h'⟩ := hq; exact fin a' fr' hf' h'
      | exit id => obtain ⟨_, fr', hf', h'⟩ := hq; exact h'.elim
      | goto l => exact hq.elim
      | panic ch => exact hq.elim
      | outgrown => exact hq.elim
    · exact h.elim
  · exact h.elim

theorem loop_rule {σ : Type} {L : List Nat} {body : (Exit → Fr → Mem → Prop) → Fr → Mem → Prop} {K : Exit → Fr → Mem → Prop} {fr : Fr} {m : Mem} (F : σ → Fr) (J : σ → Mem → Prop) (μ : σ → Nat) (s0 : σ)
    (h0 : fr = F s0) (hJ : J s0 m)
    (hstep : ∀ s m, J s m → body (trimK L (andThenE (fun fr' m' => ∃ s', fr' = F s' ∧ J s' m' ∧ μ s' < μ s) K)) (F s) m) : loopE L body K fr m := by
  refine ⟨fun k fr m => ∃ s, fr = F s ∧ J s m ∧ μ s = k, ⟨μ s0, s0, h0, hJ, rfl⟩, ?_⟩
  rintro k fr m ⟨s, rfl, hs, rfl⟩
  have := hstep s m hs
  refine Eq.mp (congrArg (fun B => body (trimK L (andThenE B K)) (F s) m) ?_) this
  funext fr' m'
  apply propext
  constructor
  · rintro ⟨s', h1, h2, h3⟩
    exact ⟨_, h3, s', h1, h2, rfl⟩
  · rintro ⟨k', h3, s', h1, h2, rfl⟩
    exact ⟨s', h1, h2, h3⟩

theorem callOK.mono {f : FuncId} {vs : List Value} {K K' : Value → Mem → Prop} {m : Mem} (h : callOK P w0 f vs K m) (hK : ∀ v m', K v m' → K' v m') : callOK P w0 f vs K' m :=
  fun w hw => ⟨(h w hw).1, (h w hw).2.mono fun _ _ ⟨v, m', h1, h2, h3⟩ => ⟨v, m', h1, h2, hK v m' h3⟩⟩

structure Mem.Le (m' m : Mem) : Prop where
  top : m'.top ≤ m.top
  blk : ∀ b f, m'.blk b = some f → b < m'.top ∧ ∃ g, m.blk b = some g ∧ (f.wr = true → g.wr = true) ∧ ∀ i v, f.cell i = some v → g.cell i = some v
theorem RepM.forget {m m' : Mem} {w : World} (h : RepM w0 m w) (hl : m'.Le m) (h0 : w0.heap.size ≤ m'.top) : RepM w0 m' w := by
  refine ⟨h.tape, h.os, h.output, h0, Nat.le_trans hl.top h.size, h.old, fun b f hb => ?_⟩
  obtain ⟨h1, g, h2, h3, h4⟩ := hl.blk b f hb
  obtain ⟨_, h5, cs, el, fz, h6, h7⟩ := h.known b g h2
  exact ⟨h1, fun hw => h5 (h3 hw), cs, el, fz, h6, fun i v hi => h7 i v (h4 i v hi)⟩
end
end Go.Eng
