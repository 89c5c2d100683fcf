import Derived.Test.Qxb6500974aGreatEngD
set_option linter.all false
set_option linter.unusedSimpArgs false
namespace Go.Eng
section
variable {P : Program} {w0 : World}

theorem firstOf_mem {p : Nat → Bool} : ∀ {l : List Nat} {i : Nat}, firstOf p l = some i → i ∈ l ∧ p i = true
  | [], _, h => by simp [firstOf] at h
  | j :: r, i, h => by
    simp only [firstOf] at h
    split at h
    · rename_i hp; simp at h; subst h; exact ⟨by simp, hp⟩
    · obtain ⟨h1, h2⟩ := firstOf_mem h
      exact ⟨by simp [h1], h2⟩
theorem ready_eq {ops : List Oper} {L : List Nat} {A : Array Bool} (hs : A.size = ops.length) (h : ∀ k, LA A k = L.contains k) : Region.ready .any ops.toArray A = readyL ops L := by
  unfold Region.ready readyL
  simp only [List.size_toArray]
  apply List.filter_congr
  intro i hi
  have hi' : i < ops.length := by simpa using hi
  have h1 : A.getD i true = L.contains i := by
    rw [← h i]
    unfold LA
    simp [hs, hi']
  rw [h1]
  congr 1
  rw [List.getElem?_toArray, List.getElem?_eq_getElem hi']
  simp only [Option.map_some, Option.getD_some, ← Array.all_toList]
  congr 1
  funext e
  rw [← h e.on]
  rfl
theorem canFirst_spec {c : Cfg} {ops : List Oper} {L : List Nat} {A : Array Bool} (hL : ∀ k, LA A k = L.contains k) {i : Nat} {oi : Oper} (hi : ops[i]? = some oi) (h : canFirst c ops L i = true) : clsAt c ops i ≤ 1 ∧ CF (clsAt c ops) ops (LA A) i oi := by
  simp only [canFirst, Bool.and_eq_true, List.all_eq_true, List.mem_range, Bool.or_eq_true, Nat.beq_eq] at h
  obtain ⟨h0, h⟩ := h
  constructor
  · split at h0 <;> first | omega | cases h0
  · intro j oj hj hji hjl
    have hjlen : j < ops.length := by
      rcases Nat.lt_or_ge j ops.length with h' | h'
      · exact h'
      · simp [List.getElem?_eq_none h'] at hj
    rcases h j hjlen with (((h1 | h1) | h1) | h1) | h1
    · exact absurd h1 hji
    · rw [hL j, h1] at hjl; cases hjl
    · exact .inl ⟨_, h1⟩
    · exact .inr (.inl ⟨_, h1⟩)
    · simp only [hi, hj, Bool.and_eq_true] at h1
      refine .inr (.inr ⟨h1.1, ?_⟩)
      have h2 := h1.2
      split at h2
      · exact .inl (by assumption)
      · exact .inr (.inl (by assumption))
      · exact .inr (.inr (.inl (by assumption)))
      · exact .inr (.inr (.inr (by assumption)))
      · cases h2

theorem evOp_cls {c : Cfg} (hc : CfgOk c w0) {fr : Fr} {a : Act} {m : Mem} {w : World} (hf : RepF c.n fr a) (hm : RepM w0 m w) {o : Oper} {K : Value → Mem → Prop} (h : evOp c (evalO fr) o.op m K) (hk : cls c.P c.pf o.op ≤ 1) :
    ∃ v, (cls c.P c.pf o.op = 0 → ∀ w, Yr c.P v w ((execOp a.eval o).run c.P w)) ∧ (∀ w', Ext w w' → Yr c.P v w' ((execOp a.eval o).run c.P w')) ∧ K v m := by
  unfold evOp at h
  split at h
  · obtain ⟨v, hv, hr⟩ := evPure_sound hc.pure hf.eval (fun f => rfl) o h
    exact ⟨v, fun _ => hr, fun w' _ => hr w', hv⟩
  · rename_i h1
    obtain ⟨v, hv, hr⟩ := evRead_sound hf.eval o h
    exact ⟨v, fun h0 => by omega, fun w' hx => .inl (hr (hm.ext hx)), hv⟩
  · rename_i h0 h1
    exfalso
    match hq : cls c.P c.pf o.op, hk with
    | 0, _ => exact h0 hq
    | 1, _ => exact h1 hq

theorem evStep_mStep {c : Cfg} (hc : CfgOk c w0) {ops : List Oper} {Q : Exit → Act → World → Prop} {next : Fr → Mem → Prop} {i : Nat} {fr : Fr} {m : Mem} {a : Act} {w : World} (hf : RepF c.n fr a) (hm : RepM w0 m w) (h : evStepE c ops i next fr m) {K : Act → World → Prop}
    (hK : ∀ a w, Post w0 c.n next a w → K a w) : mStep c.P (clsAt c ops) ops.toArray Q i K a w := by
  obtain ⟨o, ho, h⟩ := evStep h hf
  have ho' : ops.toArray[i]? = some o := by simpa using ho
  have hcl : clsAt c ops i = cls c.P c.pf o.op := by simp [clsAt, ho]
  unfold mStep
  simp only [ho']
  rcases h with ⟨hw, fr', hf', h⟩ | ⟨hw, fr', hf', h⟩
  · rw [if_pos hw]
    have fin : ∀ v w' m', RepM w0 m' w' → (putF c.n o.dst v fr' fun fr => next fr m') → K (a.put o.dst v) w' := by
      intro v w' m' hm' h
      obtain ⟨fr2, hf2, h2⟩ := hf'.put h
      exact hK _ _ ⟨fr2, m', hf2, hm', h2⟩
    split
    · rename_i h0
      obtain ⟨v, h1, h2, h3⟩ := evOp_cls hc hf' hm h (by omega)
      exact ⟨v, h1 (by omega), fin v w m hm h3⟩
    · rename_i h0
      obtain ⟨v, h1, h2, h3⟩ := evOp_cls hc hf' hm h (by omega)
      exact ⟨v, h2, fin v w m hm h3⟩
    · rename_i h0
      have h3 : cls c.P c.pf o.op = 3 := by omega
      unfold evOp at h
      rw [h3] at h
      obtain ⟨v, w', h1, h2, m', h4, h5⟩ := evNew_sound hm hf'.eval (fun f => rfl) o h3 hc.calls h
      exact ⟨v, w', h1, h2, fin v w' m' h4 h5⟩
    · refine goes_wp (evOp_goes hc hf' hm h) ?_
      rintro v w' ⟨m', hm', h⟩
      exact fin v w' m' hm' h
  · rw [if_neg (by simp [hw])]
    exact hK _ _ ⟨fr', m, hf', hm, h⟩

theorem allOf_mem {f : Nat → Prop} : ∀ {l : List Nat}, allOf f l → ∀ i ∈ l, f i
  | [], _, i, hi => by cases hi
  | j :: r, h, i, hi => by
    cases hi with
    | head => exact h.1
    | tail _ hi => exact allOf_mem h.2 i hi

theorem mix_draw {c : Cfg} (hc : CfgOk c w0) {ops : List Oper} {K : Fr → Mem → Prop} {Q : Exit → Act → World → Prop} (hQ : ∀ a w, Post w0 c.n K a w → Q .normal a w) (hQp : ∀ ch a w, ¬ Q (.panic ch) a w)
    (hsel : Region.noSelect ops.toArray = true) :
    ∀ (n : Nat) (L : List Nat) (A : Array Bool) (fr : Fr) (m : Mem) (a : Act) (w : World), A.size = ops.length → (∀ k, LA A k = L.contains k) → DC ops (LA A) → evDraw c ops K n L fr m →
      RepF c.n fr a → RepM w0 m w → wpMix c.P (clsAt c ops) ops.toArray Q n A a w
  | 0, L, A, fr, m, a, w, hs, hL, hd, h, hf, hm => by
    simp only [evDraw] at h
    cases hr : readyL ops L with
    | nil =>
      simp only [hr] at h
      exact ⟨by rw [ready_eq hs hL]; exact hr, hQ a w ⟨fr, m, hf, hm, h⟩⟩
    | cons i r => simp only [hr] at h
  | n + 1, L, A, fr, m, a, w, hs, hL, hd, h, hf, hm => by
    have hre := ready_eq hs hL
    have hstep : ∀ i, i ∈ readyL ops L → (A.setIfInBounds i true).size = ops.length ∧ (∀ k, LA (A.setIfInBounds i true) k = (i :: L).contains k) ∧ DC ops (LA (A.setIfInBounds i true)) := by
      intro i hi
      have hi' : i ∈ Region.ready .any ops.toArray A := by rw [hre]; exact hi
      obtain ⟨_, h2, _⟩ := ready_spec hi'
      refine ⟨by simpa using hs, fun k => ?_, hd.set hi'⟩
      rw [LA_set h2, hL k]
      by_cases hk : k = i
      · subst hk; simp
      · simp [hk]
    have next : ∀ i, i ∈ readyL ops L → ∀ a w, Post w0 c.n (evDraw c ops K n (i :: L)) a w → wpMix c.P (clsAt c ops) ops.toArray Q n (A.setIfInBounds i true) a w := by
      rintro i hi a w ⟨fr', m', hf', hm', h'⟩
      obtain ⟨s1, s2, s3⟩ := hstep i hi
      exact mix_draw hc hQ hQp hsel n (i :: L) _ fr' m' a w s1 s2 s3 h' hf' hm'
    simp only [evDraw] at h
    cases hr : readyL ops L with
    | nil =>
      simp only [hr] at h
      refine ⟨fun _ => hQ a w ⟨fr, m, hf, hm, h⟩, fun i hi => ?_⟩
      rw [hre, hr] at hi; cases hi
    | cons i0 r =>
      simp only [hr] at h
      cases hfi : firstOf (canFirst c ops L) (i0 :: r) with
      | some i =>
        simp only [hfi] at h
        obtain ⟨hi, hk⟩ := firstOf_mem hfi
        rw [← hr] at hi
        have hi' : i ∈ Region.ready .any ops.toArray A := by rw [hre]; exact hi
        obtain ⟨o, ho, h⟩ := evStep h hf
        obtain ⟨hk1, hcf⟩ := canFirst_spec hL ho hk
        have hcl : clsAt c ops i = cls c.P c.pf o.op := by simp [clsAt, ho]
        rcases h with ⟨hw, fr', hf', h⟩ | ⟨hw, fr', hf', h⟩
        · obtain ⟨v, h1, h2, h3⟩ := evOp_cls hc hf' hm h (by rw [← hcl]; exact hk1)
          obtain ⟨fr'', hf'', h⟩ := hf'.put h3
          exact mix_first hQp hsel (v := v) ho hk1 n A a w hcf hd hi' (.inl ⟨hw, fun h0 => h1 (by rw [← hcl]; exact h0), h2⟩) (next i hi _ _ ⟨fr'', m, hf'', hm, h⟩)
        · exact mix_first hQp hsel (v := undef) ho hk1 n A a w hcf hd hi' (.inr ⟨hw, rfl⟩) (next i hi _ _ ⟨fr', m, hf', hm, h⟩)
      | none =>
        simp only [hfi] at h
        refine ⟨fun h0 => (by rw [hre, hr] at h0; cases h0), fun j hj => ?_⟩
        rw [hre] at hj
        refine evStep_mStep hc hf hm (next := evDraw c ops K n (j :: L)) ?_ (next j hj)
        rw [hr] at hj
        cases r with
        | nil => simp only at h; simp at hj; subst hj; exact h
        | cons i1 r => simp only at h; exact allOf_mem h j hj

theorem DC_start (ops : List Oper) : DC ops (LA (Array.replicate ops.length false)) := by
  intro j o _ hj
  unfold LA at hj
  simp [Array.getD_eq_getD_getElem?, Array.getElem?_replicate] at hj
  split at hj <;> simp at hj
theorem LA_start (n k : Nat) : LA (Array.replicate n false) k = ([] : List Nat).contains k := by
  unfold LA
  simp [Array.getD_eq_getD_getElem?, Array.getElem?_replicate]
  split <;> simp

def PostE (w0 : World) (n : Nat) (K : Exit → Fr → Mem → Prop) : Exit → Act → World → Prop
  | .panic _, _, _ => False
  | .outgrown, _, _ => False
  | .goto _, _, _ => False
  | e, a, w => ∃ fr m, RepF n fr a ∧ RepM w0 m w ∧ K e fr m

theorem least {p : Nat → Prop} : ∀ n, p n → ∃ k, p k ∧ ∀ j, p j → k ≤ j := by
  intro n
  induction n using Nat.strongRecOn with
  | ind n ih =>
    intro hn
    by_cases h : ∃ k, k < n ∧ p k
    · obtain ⟨k, hk, hp⟩ := h
      exact ih k hk hp
    · exact ⟨n, hn, fun j hj => by
        rcases Nat.lt_or_ge j n with h' | h'
        · exact absurd ⟨j, h', hj⟩ h
        · exact h'⟩
theorem measure_of (S : Nat → Act → World → Prop) : ∃ μ : Act → World → Nat, ∀ a w, (∃ n, S n a w) → S (μ a w) a w ∧ ∀ j, S j a w → μ a w ≤ j := by
  have h : ∀ x : Act × World, ∃ k, (∃ n, S n x.1 x.2) → S k x.1 x.2 ∧ ∀ j, S j x.1 x.2 → k ≤ j := by
    intro x
    by_cases hx : ∃ n, S n x.1 x.2
    · obtain ⟨n, hn⟩ := hx
      obtain ⟨k, h1, h2⟩ := least (p := fun n => S n x.1 x.2) n hn
      exact ⟨k, fun _ => ⟨h1, h2⟩⟩
    · exact ⟨0, fun h => absurd h hx⟩
  exact ⟨fun a w => (h (a, w)).choose, fun a w hx => (h (a, w)).choose_spec hx⟩

theorem evCode_sound {c : Cfg} (hc : CfgOk c w0) : ∀ (cd : Code) (K : Exit → Fr → Mem → Prop) (fr : Fr) (m : Mem) (a : Act) (w : World), RepF c.n fr a → RepM w0 m w → evCode c cd K fr m → cd.wp c.P (PostE w0 c.n K) a w
  | .skip, K, fr, m, a, w, hf, hm, h => wp_skip ⟨fr, m, hf, hm, h⟩
  | .seq x y, K, fr, m, a, w, hf, hm, h => by
    refine wp_seq (wp_mono (evCode_sound hc x _ fr m a w hf hm h) ?_)
    intro e a' w' hq
    cases e with
    | normal =>
      obtain ⟨fr', m', hf', hm', h'⟩ := hq
      exact evCode_sound hc y K fr' m' a' w' hf' hm' h'
    | exit id => exact hq
    | ret => exact hq
    | goto l => exact hq
    | panic ch => exact hq
    | outgrown => exact hq
  | .cond x A B, K, fr, m, a, w, hf, hm, h => by
    simp only [evCode] at h
    split at h
    · rename_i t ht
      have he := hf.eval _ _ ht
      rcases ifB_cases h with ⟨rfl, h⟩ | ⟨rfl, h⟩
      · exact wp_cond_true he (evCode_sound hc A K fr m a w hf hm h)
      · exact wp_cond_false he (evCode_sound hc B K fr m a w hf hm h)
    · exact h.elim
  | .block id x, K, fr, m, a, w, hf, hm, h => by
    refine wp_block (wp_mono (evCode_sound hc x _ fr m a w hf hm h) ?_)
    intro e a' w' hq
    cases e with
    | normal => exact hq
    | exit j =>
      obtain ⟨fr', m', hf', hm', h'⟩ := hq
      simp only [inBlockE] at h'
      simp only [Exit.inBlock]
      by_cases hj : j = id
      · subst hj
        simp only [Nat.beq_refl] at h'
        rw [if_pos rfl]
        exact ⟨fr', m', hf', hm', h'⟩
      · have hj' : Nat.beq j id = false := by
          cases hb : Nat.beq j id with
          | false => rfl
          | true => exact absurd (Nat.eq_of_beq_eq_true hb) hj
        simp only [hj'] at h'
        rw [if_neg hj]
        exact ⟨fr', m', hf', hm', h'⟩
    | ret => exact hq
    | goto l => exact hq
    | panic ch => exact hq
    | outgrown => exact hq
  | .loop x, K, fr, m, a, w, hf, hm, h => by
    have hx := evCode_sound hc x
    obtain ⟨I, h0, hI⟩ := h
    let S : Nat → Act → World → Prop := fun n a w => ∃ fr m, RepF c.n fr a ∧ RepM w0 m w ∧ I n fr m
    obtain ⟨μ, hμ⟩ := measure_of S
    refine wp_loop (fun a w => ∃ n, S n a w) μ (h0.elim fun n h => ⟨n, _, m, hf.keep _, hm, h⟩) ?_
    intro a' w' hS
    obtain ⟨⟨fr', m', hf', hm', h'⟩, hmin⟩ := hμ a' w' hS
    refine wp_mono (hx _ _ m' a' w' hf' hm' (hI _ _ _ h')) ?_
    intro e a2 w2 hq
    cases e with
    | normal =>
      obtain ⟨fr2, m2, hf2, hm2, k', hk', h2⟩ := hq
      have hS2 : S k' a2 w2 := ⟨_, m2, hf2.keep _, hm2, h2⟩
      refine ⟨⟨k', hS2⟩, ?_⟩
      have := (hμ a2 w2 ⟨k', hS2⟩).2 k' hS2
      omega
    | exit id => obtain ⟨fr2, m2, hf2, hm2, h2⟩ := hq; exact ⟨_, m2, hf2.keep _, hm2, h2⟩
    | ret => obtain ⟨fr2, m2, hf2, hm2, h2⟩ := hq; exact ⟨_, m2, hf2.keep _, hm2, h2⟩
    | goto l => exact hq
    | panic ch => exact hq
    | outgrown => exact hq
  | .exit id, K, fr, m, a, w, hf, hm, h => wp_exit ⟨fr, m, hf, hm, h⟩
  | .ret, K, fr, m, a, w, hf, hm, h => wp_ret ⟨fr, m, hf, hm, h⟩
  | .region id ops draw, K, fr, m, a, w, hf, hm, h => by
    simp only [evCode] at h
    have hQ : ∀ a w, Post w0 c.n (K .normal) a w → PostE w0 c.n K .normal a w := fun a w h => h
    cases draw with
    | false =>
      have := evOps_wp hc hQ _ fr m a w hf hm h
      refine wp_region ?_
      simpa using this
    | true =>
      simp only at h
      split at h
      · rename_i hsel
        refine wp_region_any hc.mixed (wpMix_any (cl := clsAt c ops.toList) _ _ _ _ ?_)
        have := mix_draw hc hQ (fun ch a w h => h) (by simpa using hsel) ops.toList.length [] (Array.replicate ops.toList.length false) fr m a { w with drawn := w.drawn + 1 } (by simp) (LA_start _) (DC_start _) h hf (hm.drew _)
        simpa using this
      · exact h.elim
  | .rangeFunc .., _, _, _, _, _, _, _, h => h.elim
  | .scope _, _, _, _, _, _, _, _, h => h.elim
  | .label _, _, _, _, _, _, _, _, h => h.elim
  | .goto _, _, _, _, _, _, _, _, h => h.elim
  | .refuse _, _, _, _, _, _, _, _, h => h.elim

theorem resV_sound {n : Nat} {fr : Fr} {a : Act} {m : Mem} {w : World} (hf : RepF n fr a) (hm : RepM w0 m w) (g : ResultVar → Sem Value) (hg1 : ∀ t, g (.tmp t) = pure (a.tmps.getD t undef)) (hg2 : ∀ x t, g (.cell x t) = do loadVar t (← asAddr (a.tmps.getD x undef))) :
    ∀ (rs : List ResultVar) (K : List Value → Prop), resV P fr m rs K → ∃ vs, K vs ∧ (rs.mapM g).run P w = .ok vs w
  | [], K, h => ⟨[], h, by simp⟩
  | .tmp t :: r, K, h => by
    obtain ⟨v, hv, h⟩ := withV_some h
    obtain ⟨vs, hK, hr⟩ := resV_sound hf hm g hg1 hg2 r _ h
    refine ⟨_, hK, ?_⟩
    have hs := hf.slot t v hv
    simp [List.mapM_cons, hg1, hr, Result.andThen, Array.getD_eq_getD_getElem?, hs]
  | .cell x t :: r, K, h => by
    simp only [resV] at h
    split at h
    · rename_i p hp
      obtain ⟨b, o, rfl, h'⟩ := ckP_some h
      obtain ⟨v, h2, hv⟩ := ldT_sound (P := P) h'
      obtain ⟨vs, hK, hr⟩ := resV_sound hf hm g hg1 hg2 r _ h2
      refine ⟨_, hK, ?_⟩
      have hs := hf.slot x _ hp
      simp [List.mapM_cons, hg2, hr, Result.andThen, Array.getD_eq_getD_getElem?, hs, asAddr, hv hm]
    · exact h.elim

theorem startF_get : ∀ (vs : List Value) (k i : Nat) (v : Value), get (startF k vs) i = some v → k ≤ i ∧ vs[i - k]? = some v
  | [], k, i, v, h => by simp [startF, get] at h
  | u :: vs, k, i, v, h => by
    simp only [startF, get] at h
    split at h
    · rename_i he
      have : k = i := by simpa using he
      subst this
      simp at h; subst h
      simp
    · obtain ⟨h1, h2⟩ := startF_get vs (k + 1) i v h
      refine ⟨by omega, ?_⟩
      rw [show i - k = (i - (k + 1)) + 1 by omega]
      simpa using h2

theorem evFn_sound {pf : FuncId → Bool} {pt : PureT} {keep : List (Nat × List Nat)} {f : FuncId} {args : List Value} {K : Value → Mem → Prop} {m : Mem} (hp : PureOk P pt) (hx : P.follows .mixedOrders = true)
    (hcall : ∀ w, (callFunc f args.toArray).run P w = .ok (.enter f args.toArray) w) (h : evFn P pf pt (callOK P w0) keep f args K m) : callOK P w0 f args K m := by
  intro w hm
  refine ⟨hcall w, ?_⟩
  unfold evFn at h
  split at h
  · rename_i fn hfn
    split at h
    · rename_i hle
      simp only [Bool.and_eq_true, Nat.ble_eq] at hle
      obtain ⟨hbs, hle'⟩ := hle
      obtain ⟨body, hb⟩ := Option.isSome_iff_exists.1 hbs
      have hbo : bodyOf P f = body := by simp [bodyOf, hfn, hb]
      rw [hbo] at h
      refine calls_of_wp hfn hb ?_
      let c : Cfg := { P := P, pf := pf, pt := pt, C := callOK P w0, n := fn.ntmps, keep := keep }
      have hcc : cfgOf P pf pt (callOK P w0) keep f = c := by simp [cfgOf, hfn, c]
      rw [hcc] at h
      have hc : CfgOk c w0 := ⟨hp, rfl, hx⟩
      have hf : RepF c.n (startF 0 args) { tmps := args.toArray ++ Array.replicate (fn.ntmps - args.toArray.size) undef, defers := [] } := by
        refine ⟨by simp [c]; omega, rfl, fun i v hi => ?_⟩
        obtain ⟨_, h2⟩ := startF_get args 0 i v hi
        simp only [Nat.sub_zero] at h2
        have hlt : i < args.length := by
          rcases Nat.lt_or_ge i args.length with h' | h'
          · exact h'
          · simp [List.getElem?_eq_none h'] at h2
        rw [Array.getElem?_append_left (by simpa using hlt)]
        simpa using h2
      refine wp_mono (evCode_sound hc body _ _ m _ w hf hm h) ?_
      have fin : ∀ a' w' fr' m', RepF c.n fr' a' → RepM w0 m' w' → resV P fr' m' fn.results.toList (fun vs => K (mkR vs) m') →
          a'.defers = [] ∧ ∃ v, (results fn a'.tmps).run P w' = .ok v w' ∧ ∃ v' m', Ending.returned v = .returned v' ∧ RepM w0 m' w' ∧ K v' m' := by
        intro a' w' fr' m' hf' hm' h'
        have hres : ∃ vs, K (mkR vs) m' ∧ (results fn a'.tmps).run P w' = .ok (mkR vs) w' := by
          unfold results
          rw [Array.mapM_eq_mapM_toList]
          simp only [Sem.run_bind, Sem.run_map]
          generalize hgg : (fun x => match x with | .tmp t => pure (a'.tmps.getD t undef) | .cell a t => do loadVar t (← asAddr (a'.tmps.getD a undef)) : ResultVar → Sem Value) = g
          obtain ⟨vs, hK, hr⟩ := resV_sound hf' hm' g (fun t => by rw [← hgg]) (fun x t => by rw [← hgg]) _ _ h'
          refine ⟨vs, hK, ?_⟩
          rw [hr]
          simp only [Result.andThen, Sem.run_pure]
          match vs with
          | [] => rfl
          | [v] => rfl
          | v :: u :: r => simp [mkR]
        obtain ⟨vs, hK, hr⟩ := hres
        exact ⟨hf'.defers, mkR vs, hr, mkR vs, m', rfl, hm', hK⟩
      intro e a' w' hq
      cases e with
      | normal => obtain ⟨fr', m', hf', hm', h'⟩ := hq; simp only [endK, hfn] at h'; exact fin a' w' fr' m' hf' hm' h'
      | ret => obtain ⟨fr', m', hf', hm', h'⟩ := hq; simp only [endK, hfn] at h'; exact fin a' w' fr' m' hf' hm' h'
      | exit id => obtain ⟨fr', m', hf', hm', h'⟩ := hq; simp only [endK, hfn] at h';
      | goto l => exact hq.elim
      | panic ch => exact hq.elim
      | outgrown => exact hq.elim
    · exact h.elim
  · exact h.elim
end
end Go.Eng
