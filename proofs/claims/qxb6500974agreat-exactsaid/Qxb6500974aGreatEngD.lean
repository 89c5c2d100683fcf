import Derived.Test.Qxb6500974aGreatEngC
set_option linter.all false
set_option linter.unusedSimpArgs false
namespace Go.Eng

structure RepF (n : Nat) (fr : Fr) (a : Act) : Prop where
  size : a.tmps.size = n
  defers : a.defers = []
  slot : ∀ i v, get fr i = some v → a.tmps[i]? = some v

section
variable {P : Program} {w0 : World}

theorem RepF.eval {n : Nat} {fr : Fr} {a : Act} (h : RepF n fr a) : ∀ x v, evalO fr x = some v → a.eval x = v := by
  intro x v hx
  cases x with
  | tmp t => simp only [evalO] at hx; simp [Act.eval, Array.getD_eq_getD_getElem?, h.slot t v hx]
  | const u => simp [evalO] at hx; simp [Act.eval, hx]
  | global g => simp [evalO] at hx; simp [Act.eval, hx]
  | func f => simp [evalO] at hx; simp [Act.eval, hx]
theorem RepF.put {n : Nat} {fr : Fr} {a : Act} (h : RepF n fr a) {dst : Option Tmp} {v : Value} {K : Fr → Prop} (hp : putF n dst v fr K) : ∃ fr', RepF n fr' (a.put dst v) ∧ K fr' := by
  unfold putF at hp
  cases dst with
  | none => exact ⟨fr, h, hp⟩
  | some d =>
    simp only at hp
    split at hp
    · rename_i hd
      have hd' : d < n := by simpa [Nat.blt_eq] using hd
      refine ⟨_, ⟨by simp [Act.put, h.size], h.defers, ?_⟩, hp⟩
      intro i u hi
      simp only [get] at hi
      simp only [Act.put]
      split at hi
      · rename_i he
        have he' : d = i := by simpa using he
        subst he'
        simp at hi; subst hi
        simp [Array.getElem?_setIfInBounds, h.size, hd']
      · rename_i he
        have he' : d ≠ i := by intro h0; subst h0; simp at he
        rw [Array.getElem?_setIfInBounds_ne he']
        exact h.slot i u hi
    · exact hp.elim
theorem RepF.refine {n : Nat} {fr : Fr} {a : Act} (h : RepF n fr a) {g : Nat} {v : Value} (hg : get fr g = some v) : RepF n ((g, v) :: fr) a := by
  refine ⟨h.size, h.defers, fun i u hi => ?_⟩
  simp only [get] at hi
  split at hi
  · rename_i he
    have he' : g = i := by simpa using he
    subst he'
    simp at hi; subst hi
    exact h.slot _ _ hg
  · exact h.slot i u hi
theorem get_keepF {fr : Fr} : ∀ (L : List Nat) (i : Nat) (v : Value), get (keepF L fr) i = some v → get fr i = some v
  | [], i, v, h => by simp [keepF, get] at h
  | j :: r, i, v, h => by
    simp only [keepF] at h
    split at h
    · rename_i u hu
      simp only [get] at h
      split at h
      · rename_i he
        have he' : j = i := by simpa using he
        subst he'
        simp at h; subst h; exact hu
      · exact get_keepF r i v h
    · exact get_keepF r i v h
theorem RepF.keep {n : Nat} {fr : Fr} {a : Act} (h : RepF n fr a) (L : List Nat) : RepF n (keepF L fr) a :=
  ⟨h.size, h.defers, fun i v hi => h.slot i v (get_keepF L i v hi)⟩

def Post (w0 : World) (n : Nat) (K : Fr → Mem → Prop) (a : Act) (w : World) : Prop := ∃ fr m, RepF n fr a ∧ RepM w0 m w ∧ K fr m

theorem goes_wp {o : Oper} {a : Act} {w : World} {R : Value → World → Prop} {K : Act → World → Prop} {Q : Exit → Act → World → Prop} (h : Goes P R ((execOp a.eval o).run P w)) (hK : ∀ v w', R v w' → K (a.put o.dst v) w') : o.wp P a w K Q := by
  unfold Oper.wp
  generalize (execOp a.eval o).run P w = r at h
  cases r with
  | ok n w' =>
    cases n <;> simp only [Goes] at h <;> simp only [Oper.upon]
    case value v => exact hK _ _ h
    case skip => exact hK _ _ h
    case enter f args =>
      refine h.mono ?_
      rintro e w'' ⟨v, rfl, hv⟩
      exact hK _ _ hv
  | halt x w' => exact h.elim
theorem yr_goes {v : Value} {w : World} {r : Result Next} {R : Value → World → Prop} (h : Yr P v w r) (hR : R v w) : Goes P R r := by
  rcases h with rfl | ⟨f, args, rfl, h⟩
  · exact hR
  · exact h _ ⟨v, rfl, hR⟩

structure CfgOk (c : Cfg) (w0 : World) : Prop where
  pure : PureOk c.P c.pt
  calls : c.C = callOK c.P w0
  mixed : c.P.follows .mixedOrders = true

theorem evOp_goes {c : Cfg} (hc : CfgOk c w0) {fr : Fr} {a : Act} {m : Mem} {w : World} (hf : RepF c.n fr a) (hm : RepM w0 m w) {o : Oper} {K : Value → Mem → Prop} (h : evOp c (evalO fr) o.op m K) :
    Goes c.P (fun v w' => ∃ m', RepM w0 m' w' ∧ K v m') ((execOp a.eval o).run c.P w) := by
  unfold evOp at h
  split at h
  · obtain ⟨v, hv, hr⟩ := evPure_sound hc.pure hf.eval (fun f => rfl) o h
    exact yr_goes (hr w) ⟨m, hm, hv⟩
  · obtain ⟨v, hv, hr⟩ := evRead_sound hf.eval o h
    rw [hr hm]
    exact ⟨m, hm, hv⟩
  · rw [hc.calls] at h
    exact evEff_sound hm hf.eval (fun f => rfl) o h

theorem wanted_none {o : Oper} {y : Nat → Option Bool} (h : o.guard = none) : Region.wanted o y = true := by simp [Region.wanted, h]
theorem wanted_bool {o : Oper} {ops : Array Oper} {a : Act} {j g : Nat} {want b : Bool} (h : o.guard = some (j, want)) (hd : (ops[j]?).bind (·.dst) = some g) (ha : a.tmps[g]? = some (.bool b)) : Region.wanted o (yielded ops a.tmps) = (b == want) := by
  simp only [Region.wanted, h, yielded, hd, Option.bind_some, ha]
  simp
theorem wanted_undef {o : Oper} {ops : Array Oper} {a : Act} {j g : Nat} {want : Bool} (h : o.guard = some (j, want)) (hd : (ops[j]?).bind (·.dst) = some g) (ha : a.tmps[g]? = some (.tuple #[])) : Region.wanted o (yielded ops a.tmps) = false := by
  simp only [Region.wanted, h, yielded, hd, Option.bind_some, ha]
  rfl

theorem evStep {c : Cfg} {ops : List Oper} {next : Fr → Mem → Prop} {i : Nat} {fr : Fr} {m : Mem} (h : evStepE c ops i next fr m) {a : Act} (hf : RepF c.n fr a) :
    ∃ o, ops[i]? = some o ∧
      ((Region.wanted o (yielded ops.toArray a.tmps) = true ∧ ∃ fr', RepF c.n fr' a ∧ evOp c (evalO fr') o.op m fun v m => putF c.n o.dst v fr' fun fr => next fr m) ∨
       (Region.wanted o (yielded ops.toArray a.tmps) = false ∧ ∃ fr', RepF c.n fr' (a.put o.dst undef) ∧ next fr' m)) := by
  simp only [evStepE] at h
  split at h
  · exact h.elim
  · rename_i o ho
    refine ⟨o, ho, ?_⟩
    split at h
    · rename_i hg
      exact .inl ⟨wanted_none hg, fr, hf, h⟩
    · rename_i j want hg
      split at h
      · exact h.elim
      · rename_i g hd
        have hd' : (ops.toArray[j]?).bind (·.dst) = some g := by simpa using hd
        split at h
        · rename_i b hb
          have hs := hf.slot g _ hb
          rcases ifB_cases h with ⟨rfl, h'⟩ | ⟨rfl, h'⟩
          · cases want
            · exact .inr ⟨by rw [wanted_bool hg hd' hs]; rfl, (hf.refine hb).put h'⟩
            · exact .inl ⟨by rw [wanted_bool hg hd' hs]; rfl, _, hf.refine hb, h'⟩
          · cases want
            · exact .inl ⟨by rw [wanted_bool hg hd' hs]; rfl, _, hf.refine hb, h'⟩
            · exact .inr ⟨by rw [wanted_bool hg hd' hs]; rfl, (hf.refine hb).put h'⟩
        · rename_i vs hb
          split at h
          · rename_i hvs
            have hs := hf.slot g _ hb
            have : vs = #[] := by rw [← Array.toArray_toList (xs := vs), hvs]
            subst this
            exact .inr ⟨wanted_undef hg hd' hs, hf.put h⟩
          · exact h.elim
        · exact h.elim

theorem evOps_wp {c : Cfg} (hc : CfgOk c w0) {ops : List Oper} {K : Fr → Mem → Prop} {Q : Exit → Act → World → Prop} (hQ : ∀ a w, Post w0 c.n K a w → Q .normal a w) :
    ∀ (l : List Nat) (fr : Fr) (m : Mem) (a : Act) (w : World), RepF c.n fr a → RepM w0 m w → evOps c ops K l fr m → wpOps c.P ops.toArray Q l a w
  | [], fr, m, a, w, hf, hm, h => hQ a w ⟨fr, m, hf, hm, h⟩
  | i :: rest, fr, m, a, w, hf, hm, h => by
    obtain ⟨o, ho, h⟩ := evStep h hf
    have ho' : ops.toArray[i]? = some o := by simpa using ho
    simp only [wpOps, ho']
    rcases h with ⟨hw, fr', hf', h⟩ | ⟨hw, fr', hf', h⟩
    · rw [if_pos hw]
      refine .inl (goes_wp (evOp_goes hc hf' hm h) ?_)
      rintro v w' ⟨m', hm', h⟩
      obtain ⟨fr'', hf'', h⟩ := hf'.put h
      exact evOps_wp hc hQ rest fr'' m' _ w' hf'' hm' h
    · rw [if_neg (by simp [hw])]
      exact evOps_wp hc hQ rest fr' m _ w hf' hm h

def DC (ops : List Oper) (L : Nat → Bool) : Prop := ∀ j o, ops[j]? = some o → L j = true → ∀ e ∈ o.after, Region.binds .any e = true → L e.on = true
theorem dep_listed {ops : List Oper} {L : Nat → Bool} (hd : DC ops L) : ∀ (n i j : Nat), depF ops n i j = true → L j = true → L i = true
  | 0, i, j, h, _ => by simp [depF] at h
  | n + 1, i, j, h, hj => by
    simp only [depF] at h
    split at h
    · rename_i o ho
      simp only [List.any_eq_true, Bool.and_eq_true, Bool.or_eq_true, Nat.beq_eq] at h
      obtain ⟨e, he, hb, h⟩ := h
      have hl := hd j o ho hj e (by simpa using he) hb
      rcases h with rfl | h
      · exact hl
      · exact dep_listed hd n i e.on h hl
    · cases h
theorem dep_ready {ops : List Oper} {L : Nat → Bool} (hd : DC ops L) {n i j : Nat} {o : Oper} (h : depF ops n i j = true) (ho : ops[j]? = some o) (hr : ∀ e ∈ o.after, Region.binds .any e = true → L e.on = true) : L i = true := by
  cases n with
  | zero => simp [depF] at h
  | succ n =>
    simp only [depF, ho] at h
    simp only [List.any_eq_true, Bool.and_eq_true, Bool.or_eq_true, Nat.beq_eq] at h
    obtain ⟨e, he, hb, h⟩ := h
    have hl := hr e (by simpa using he) hb
    rcases h with rfl | h
    · exact hl
    · exact dep_listed hd n i e.on h hl

def mStep (P : Program) (cl : Nat → Nat) (ops : Array Oper) (Q : Exit → Act → World → Prop) (i : Nat) (K : Act → World → Prop) (a : Act) (w : World) : Prop :=
  match ops[i]? with
  | none => False
  | some o => if Region.wanted o (yielded ops a.tmps) then
      (match cl i with
       | 0 => ∃ v, (∀ w, Yr P v w ((execOp a.eval o).run P w)) ∧ K (a.put o.dst v) w
       | 1 => ∃ v, (∀ w', Ext w w' → Yr P v w' ((execOp a.eval o).run P w')) ∧ K (a.put o.dst v) w
       | 3 => ∃ v w', (execOp a.eval o).run P w = .ok (.value v) w' ∧ Ext w w' ∧ K (a.put o.dst v) w'
       | _ => o.wp P a w K Q)
    else K (a.put o.dst undef) w
def wpMix (P : Program) (cl : Nat → Nat) (ops : Array Oper) (Q : Exit → Act → World → Prop) : Nat → Array Bool → Act → World → Prop
  | 0, listed, a, w => Region.ready .any ops listed = [] ∧ Q .normal a w
  | fuel + 1, listed, a, w =>
    (Region.ready .any ops listed = [] → Q .normal a w) ∧
    ∀ i ∈ Region.ready .any ops listed, mStep P cl ops Q i (wpMix P cl ops Q fuel (listed.setIfInBounds i true)) a w
theorem yr_wp {o : Oper} {a : Act} {w : World} {v : Value} {K : Act → World → Prop} {Q : Exit → Act → World → Prop} (h : Yr P v w ((execOp a.eval o).run P w)) (hK : K (a.put o.dst v) w) : o.wp P a w K Q := by
  unfold Oper.wp
  rcases h with h | ⟨f, args, h, hc⟩
  · rw [h]; exact hK
  · rw [h]; exact hc _ hK
theorem mStep_wpOp {cl : Nat → Nat} {ops : Array Oper} {Q : Exit → Act → World → Prop} {i : Nat} {K K' : Act → World → Prop} {a : Act} {w : World} (h : mStep P cl ops Q i K a w) (hK : ∀ a w, K a w → K' a w) : wpOp P ops Q i K' a w := by
  unfold mStep at h
  unfold wpOp
  split at h
  · exact h.elim
  · rename_i o ho
    simp only [ho]
    split at h
    · rename_i hw
      rw [if_pos hw]
      refine .inl ?_
      split at h
      · obtain ⟨v, h1, h2⟩ := h; exact yr_wp (h1 w) (hK _ _ h2)
      · obtain ⟨v, h1, h2⟩ := h; exact yr_wp (h1 w (Ext.refl w)) (hK _ _ h2)
      · obtain ⟨v, w', h1, h2, h3⟩ := h; unfold Oper.wp; rw [h1]; exact hK _ _ h3
      · exact Oper.wp_mono hK h
    · rename_i hw
      rw [if_neg hw]
      exact hK _ _ h
theorem wpMix_any {cl : Nat → Nat} {ops : Array Oper} {Q : Exit → Act → World → Prop} : ∀ (fuel : Nat) (listed : Array Bool) (a : Act) (w : World), wpMix P cl ops Q fuel listed a w → wpAny P .any ops Q fuel listed a w
  | 0, _, _, _, h => h
  | fuel + 1, _, _, _, h => ⟨h.1, fun i hi => mStep_wpOp (h.2 i hi) fun a w => wpMix_any fuel _ a w⟩

def YI (P : Program) (k : Nat) (ops : Array Oper) (o : Oper) (v : Value) (a : Act) (w : World) : Prop :=
  (Region.wanted o (yielded ops a.tmps) = true ∧ (k = 0 → ∀ w, Yr P v w ((execOp a.eval o).run P w)) ∧ ∀ w', Ext w w' → Yr P v w' ((execOp a.eval o).run P w')) ∨
  (Region.wanted o (yielded ops a.tmps) = false ∧ v = undef)
theorem YI.same {k : Nat} {ops : Array Oper} {o : Oper} {v : Value} {a a' : Act} {w : World} (h : YI P k ops o v a w) (he : execOp a'.eval o = execOp a.eval o)
    (hw : Region.wanted o (yielded ops a'.tmps) = Region.wanted o (yielded ops a.tmps)) : YI P k ops o v a' w := by
  unfold YI at *
  rw [he, hw]
  exact h
theorem YI.world {ops : Array Oper} {o : Oper} {v : Value} {a : Act} {w w' : World} (h : YI P 0 ops o v a w) : YI P 0 ops o v a w' := by
  rcases h with ⟨h1, h2, h3⟩ | h
  · exact .inl ⟨h1, h2, fun w'' _ => h2 rfl w''⟩
  · exact .inr h
theorem YI.ext {k : Nat} {ops : Array Oper} {o : Oper} {v : Value} {a : Act} {w w' : World} (h : YI P k ops o v a w) (hx : Ext w w') : YI P k ops o v a w' := by
  rcases h with ⟨h1, h2, h3⟩ | h
  · exact .inl ⟨h1, h2, fun w'' h'' => h3 w'' (hx.trans h'')⟩
  · exact .inr h
theorem YI.step {cl : Nat → Nat} {ops : Array Oper} {Q : Exit → Act → World → Prop} {i : Nat} {o : Oper} {v : Value} {a : Act} {w : World} (ho : ops[i]? = some o) (hk : cl i ≤ 1) (h : YI P (cl i) ops o v a w) {K : Act → World → Prop} (hK : K (a.put o.dst v) w) :
    mStep P cl ops Q i K a w := by
  unfold mStep
  simp only [ho]
  rcases h with ⟨h1, h2, h3⟩ | ⟨h1, rfl⟩
  · rw [if_pos h1]
    match hc : cl i, hk with
    | 0, _ => exact ⟨v, h2 hc, hK⟩
    | 1, _ => exact ⟨v, h3, hK⟩
  · rw [if_neg (by simp [h1])]; exact hK
theorem mStep_mono {cl : Nat → Nat} {ops : Array Oper} {Q : Exit → Act → World → Prop} {i : Nat} {K K' : Act → World → Prop} {a : Act} {w : World} (hK : ∀ a w, K a w → K' a w) (h : mStep P cl ops Q i K a w) : mStep P cl ops Q i K' a w := by
  unfold mStep at *
  split at h
  · exact h
  · split at h
    · rename_i hw
      rw [if_pos hw]
      split at h
      · obtain ⟨v, h1, h2⟩ := h; exact ⟨v, h1, hK _ _ h2⟩
      · obtain ⟨v, h1, h2⟩ := h; exact ⟨v, h1, hK _ _ h2⟩
      · obtain ⟨v, w', h1, h2, h3⟩ := h; exact ⟨v, w', h1, h2, hK _ _ h3⟩
      · exact Oper.wp_mono hK h
    · rename_i hw
      rw [if_neg hw]
      exact hK _ _ h

theorem mStep_put {cl : Nat → Nat} {ops : Array Oper} {Q : Exit → Act → World → Prop} (hQ : ∀ ch a w, ¬ Q (.panic ch) a w) (hsel : Region.noSelect ops = true) {i j : Nat} {oi oj : Oper} {v : Value} (hi : ops[i]? = some oi) (hj : ops[j]? = some oj) (hap : oi.apart ops oj = true)
    (hcl : cl i = 0 ∨ (cl j = 0 ∨ cl j = 1 ∨ cl j = 3)) {K : Act → World → Prop} {a : Act} {w : World} (hy : YI P (cl i) ops oi v a w) (h : mStep P cl ops Q j K (a.put oi.dst v) w) :
    mStep P cl ops Q j (fun a' w' => YI P (cl i) ops oi v a' w' ∧ K (a'.put oi.dst v) w') a w := by
  obtain ⟨h1, h2, h3⟩ := Oper.apart_spec hap
  have hsi := fun cs b => Region.noSelect_spec hsel i oi cs b hi
  have hsj := fun cs b => Region.noSelect_spec hsel j oj cs b hj
  have keep : ∀ (a : Act) (w : World), YI P (cl i) ops oi v a w → ∀ u, YI P (cl i) ops oi v (a.put oj.dst u) w := fun a w hy u =>
    hy.same (execOp_put oi hsi a oj.dst u h3) (wanted_put oi a oj.dst u h3)
  unfold mStep at *
  simp only [hj] at *
  rw [wanted_put oj a oi.dst v h1] at h
  split at h
  · rename_i hw
    rw [if_pos hw]
    rw [execOp_put oj hsj a oi.dst v h1] at h
    split at h
    · obtain ⟨u, hu, h⟩ := h
      exact ⟨u, hu, keep a w hy u, by rw [← Act.put_comm a v u h2]; exact h⟩
    · obtain ⟨u, hu, h⟩ := h
      exact ⟨u, hu, keep a w hy u, by rw [← Act.put_comm a v u h2]; exact h⟩
    · obtain ⟨u, w', hu, hx, h⟩ := h
      exact ⟨u, w', hu, hx, (keep a w hy u).ext hx, by rw [← Act.put_comm a v u h2]; exact h⟩
    · rename_i hc0 hc1 hc3
      have hci : cl i = 0 := by
        rcases hcl with h0 | h0 | h0 | h0
        · exact h0
        · exact absurd h0 hc0
        · exact absurd h0 hc1
        · exact absurd h0 hc3
      have keepD : ∀ d, YI P (cl i) ops oi v { a with defers := d :: a.defers } w := fun d => hy.same rfl rfl
      have hall : ∀ (a : Act) (w w' : World), YI P (cl i) ops oi v a w → YI P (cl i) ops oi v a w' := fun a w w' h => by rw [hci] at h ⊢; exact h.world
      unfold Oper.wp at *
      rw [execOp_put oj hsj a oi.dst v h1] at h
      generalize (execOp a.eval oj).run P w = r at *
      cases r with
      | ok n w' =>
        cases n <;> simp only [Oper.upon] at h ⊢
        case value u => exact ⟨hall _ w _ (keep a w hy u), by rw [← Act.put_comm a v u h2]; exact h⟩
        case skip => exact ⟨hall _ w _ (keep a w hy _), by rw [← Act.put_comm a v undef h2]; exact h⟩
        case defer d =>
          refine ⟨hall _ w _ (keep _ w (keepD d) _), ?_⟩
          rw [← Act.put_comm _ v undef h2, ← Act.put_defers]
          exact h
        case enter f args =>
          refine Calls.mono h fun e w'' he => ?_
          cases e with
          | returned u => exact ⟨hall _ w _ (keep a w hy u), by rw [← Act.put_comm a v u h2]; exact he⟩
          | panicked ch => exact absurd he (hQ _ _ _)
          | outgrown => exact he
        case row row args => exact Rows.mono h fun u w'' he => ⟨hall _ w _ (keep a w hy u), by rw [← Act.put_comm a v u h2]; exact he⟩
      | halt x w' =>
        cases x <;> simp only [Oper.upon] at h ⊢
        case panic u => exact absurd h (hQ _ _ _)
  · rename_i hw
    rw [if_neg hw]
    exact ⟨keep a w hy _, by rw [← Act.put_comm a v undef h2]; exact h⟩

def LA (listed : Array Bool) : Nat → Bool := fun k => listed.getD k false
theorem ready_spec {ops : List Oper} {listed : Array Bool} {j : Nat} (h : j ∈ Region.ready .any ops.toArray listed) :
    LA listed j = false ∧ j < listed.size ∧ ∃ o, ops[j]? = some o ∧ ∀ e ∈ o.after, Region.binds .any e = true → LA listed e.on = true := by
  obtain ⟨h1, o, h2, h3⟩ := mem_ready.1 h
  refine ⟨?_, ?_, o, by simpa using h2, h3⟩
  · unfold LA
    rcases Nat.lt_or_ge j listed.size with h' | h'
    · simp [h'] at h1 ⊢; exact h1
    · simp [Array.getElem?_eq_none h'] at h1
  · rcases Nat.lt_or_ge j listed.size with h' | h'
    · exact h'
    · simp [Array.getElem?_eq_none h'] at h1
theorem LA_set {listed : Array Bool} {j k : Nat} (hj : j < listed.size) : LA (listed.setIfInBounds j true) k = (if k = j then true else LA listed k) := by
  unfold LA
  by_cases h : k = j
  · subst h; simp [hj]
  · rw [if_neg h, getD_set_ne false (Ne.symm h)]
theorem DC.set {ops : List Oper} {listed : Array Bool} {j : Nat} (hd : DC ops (LA listed)) (h : j ∈ Region.ready .any ops.toArray listed) : DC ops (LA (listed.setIfInBounds j true)) := by
  obtain ⟨h1, h2, o, h3, h4⟩ := ready_spec h
  intro k ok hok hk e he hb
  rw [LA_set h2] at hk ⊢
  split
  · rfl
  · by_cases hkj : k = j
    · subst hkj
      rw [h3] at hok
      simp at hok; subst hok
      exact h4 e he hb
    · rw [if_neg hkj] at hk
      exact hd k ok hok hk e he hb

def CF (cl : Nat → Nat) (ops : List Oper) (L : Nat → Bool) (i : Nat) (oi : Oper) : Prop :=
  ∀ j oj, ops[j]? = some oj → j ≠ i → L j = false → (∃ n, depF ops n i j = true) ∨ (∃ n, depF ops n j i = true) ∨
    (oi.apart ops.toArray oj = true ∧ (cl i = 0 ∨ (cl j = 0 ∨ cl j = 1 ∨ cl j = 3)))

theorem mix_first {cl : Nat → Nat} {ops : List Oper} {Q : Exit → Act → World → Prop} (hQ : ∀ ch a w, ¬ Q (.panic ch) a w) (hsel : Region.noSelect ops.toArray = true) {i : Nat} {oi : Oper} {v : Value} (hi : ops[i]? = some oi) (hk : cl i ≤ 1) :
    ∀ (fuel : Nat) (listed : Array Bool) (a : Act) (w : World), CF cl ops (LA listed) i oi → DC ops (LA listed) → i ∈ Region.ready .any ops.toArray listed → YI P (cl i) ops.toArray oi v a w →
      wpMix P cl ops.toArray Q fuel (listed.setIfInBounds i true) (a.put oi.dst v) w → wpMix P cl ops.toArray Q (fuel + 1) listed a w := by
  have hi' : ops.toArray[i]? = some oi := by simpa using hi
  intro fuel
  induction fuel with
  | zero =>
    intro listed a w _ hd hr hy H
    refine ⟨fun h => (by rw [h] at hr; cases hr), fun j hj => ?_⟩
    by_cases hji : j = i
    · subst hji; exact hy.step hi' hk H
    · have := ready_mono hj hji
      rw [H.1] at this
      cases this
  | succ fuel ih =>
    intro listed a w hcf hd hr hy H
    refine ⟨fun h => (by rw [h] at hr; cases hr), fun j hj => ?_⟩
    by_cases hji : j = i
    · subst hji; exact hy.step hi' hk H
    · have h1 := H.2 j (ready_mono hj hji)
      obtain ⟨hjl, hjs, oj, hoj, hjr⟩ := ready_spec hj
      obtain ⟨hil, his, oi', hoi', hir⟩ := ready_spec hr
      have hoj' : ops.toArray[j]? = some oj := by simpa using hoj
      rcases hcf j oj hoj hji hjl with ⟨n, hdep⟩ | ⟨n, hdep⟩ | ⟨hap, hcl⟩
      · have := dep_ready hd hdep hoj hjr
        rw [hil] at this; cases this
      · have := dep_ready hd hdep hoi' hir
        rw [hjl] at this; cases this
      · have h2 := mStep_put hQ hsel hi' hoj' hap hcl hy h1
        refine mStep_mono (fun a' w' h3 => ?_) h2
        refine ih (listed.setIfInBounds j true) a' w' ?_ (hd.set hj) (ready_mono hr (Ne.symm hji)) h3.1 ?_
        · intro k ok hok hki hkl
          rw [LA_set hjs] at hkl
          split at hkl
          · cases hkl
          · exact hcf k ok hok hki hkl
        · rw [Array.setIfInBounds_comm _ _ hji]
          exact h3.2
end
end Go.Eng
