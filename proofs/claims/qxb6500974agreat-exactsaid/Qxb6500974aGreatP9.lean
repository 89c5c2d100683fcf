import Derived.Test.Qxb6500974aGreatP8
set_option linter.all false
set_option linter.unusedSimpArgs false
set_option linter.unusedVariables false
namespace Go.Proofs.Qxb6500974aGreat
open Go.Eng

theorem gCF_lits : ∀ (l : List Int) (s : Bool) (p : Int) (tl : List Int), (∀ x ∈ l, goGoodLit x = true) → l.Pairwise (fun a b => a.natAbs < b.natAbs) → (∀ x ∈ l, p < (x.natAbs : Int)) → gCF s p (l ++ 0 :: tl) = gCF true 0 tl
  | [], s, p, tl, _, _, _ => by
    simp only [List.nil_append, gCF]
    rw [if_neg (by simp)]
    simp
  | x :: xs, s, p, tl, hg, hp, hb => by
    have ha := good_abs (hg x (by simp))
    have hgx := hg x (by simp)
    simp only [List.cons_append, gCF]
    rw [if_neg (by rintro ⟨h1, _⟩; omega), if_neg ha.1, if_neg (by rw [hgx]; simp)]
    have hpx := hb x (by simp)
    rw [ha.2.2.2.2, if_neg (by omega)]
    rw [List.pairwise_cons] at hp
    exact gCF_lits xs false _ tl (fun y hy => hg y (by simp [hy])) hp.2 (fun y hy => by have := hp.1 y hy; omega)
theorem gCF_flat : ∀ (rows : List (Bool × List Int)), (∀ r ∈ rows, NF r.2) → gCF true 0 (flatOf rows) = 0
  | [], _ => rfl
  | r :: rows, h => by
    have hr := h r (by simp)
    have ih := gCF_flat rows (fun r' hr' => h r' (by simp [hr']))
    have hb : ∀ x ∈ r.2, (0 : Int) < (x.natAbs : Int) := fun x hx => by have := good_abs (hr.1 x hx); omega
    simp only [flatOf]
    by_cases hd : r.1 = true
    · rw [if_pos hd]
      simp only [List.cons_append, List.nil_append, gCF]
      rw [if_pos (by simp), if_neg (by simp), gCF_lits r.2 false 0 _ hr.1 hr.2 hb]
      exact ih
    · rw [if_neg hd, List.nil_append, gCF_lits r.2 true 0 _ hr.1 hr.2 hb]
      exact ih
theorem flat_last : ∀ (rows : List (Bool × List Int)), rows ≠ [] → ∃ pre, flatOf rows = pre ++ [0]
  | [], h => absurd rfl h
  | [r], _ => ⟨(if r.1 = true then [13] else []) ++ r.2, by simp [flatOf]⟩
  | r :: r' :: rows, _ => by
    obtain ⟨pre, h⟩ := flat_last (r' :: rows) (by simp)
    refine ⟨(if r.1 = true then [13] else []) ++ (r.2 ++ 0 :: pre), ?_⟩
    have e : flatOf (r :: r' :: rows) = (if r.1 = true then [13] else []) ++ (r.2 ++ 0 :: flatOf (r' :: rows)) := rfl
    rw [e, h]
    simp
theorem check_flat {rows : List (Bool × List Int)} (h : ∀ r ∈ rows, NF r.2) : gCheckFlat (flatOf rows) = 0 := by
  unfold gCheckFlat
  rw [if_pos (gCF_flat rows h), if_neg]
  rintro ⟨h1, h2⟩
  apply h2
  have hne : rows ≠ [] := fun h0 => by subst h0; exact h1 rfl
  obtain ⟨pre, hp⟩ := flat_last rows hne
  rw [hp]
  simp [List.getD]
theorem flat_el {rows : List (Bool × List Int)} (h : ∀ r ∈ rows, NF r.2) : ∀ x ∈ flatOf rows, x = 13 ∨ x = 0 ∨ goGoodLit x = true := by
  induction rows with
  | nil => intro x hx; simp [flatOf] at hx
  | cons r rows ih =>
    intro x hx
    simp only [flatOf, List.mem_append, List.mem_cons] at hx
    rcases hx with hx | hx | hx | hx
    · split at hx
      · simp at hx; exact .inl hx
      · simp at hx
    · exact .inr (.inr ((h r (by simp)).1 x hx))
    · exact .inr (.inl hx)
    · exact ih (fun r' hr' => h r' (by simp [hr'])) x hx

structure RefEnd (Q : List (List Int)) (σ : St) : Prop where
  rows : ∃ rows L, σ.log = flatOf (rows ++ [(false, [])]) ∧ (∀ r ∈ rows, NF r.2 ∧ r.2 ≠ []) ∧ gSteps Q rows = some L ∧ L.Perm (liveL σ.w) ∧ adds rows + 1 = σ.conf ∧ gMC 0 Q (rows ++ [(false, [])]) = (0, 0, 0)
  llen : σ.log.length ≤ 262144
  wg : WGood σ.w
  prob : ∀ id, id < 40 → ((σ.w id).st ≠ 0 ↔ id < Q.length) ∧ ∀ q, Q[id]? = some q → (σ.w id).lits.Perm q
  fin : FinOK { σ with log := [] }
  due : σ.conf = ahead σ.rest + σ.since + 1
  since : σ.rest < 4 → σ.since ≤ σ.rest
structure SatEnd (Q : List (List Int)) (σ : St) : Prop where
  pi : PI σ.w σ.t σ.t.cur
  full : σ.t.es.length = 12
  sat : ∀ id, (σ.w id).st ≠ 0 → ClC (σ.w id).lits σ.t.tr
  ib : IB Q σ
  fin : FinOK { σ with log := [] }
theorem IB.fin {Q : List (List Int)} {σ : St} (h : IB Q σ) (hc : σ.conf ≤ 4105) : FinOK { σ with log := [] } := by
  have hi := interval_eq h.rest
  refine ⟨rfl, ?_, h.act0, h.phase0, fun v hv => (h.act v hv).1, h.phase, h.alive, fun k hk _ => h.high k hk, h.count, h.rest, ?_, ?_, ?_⟩
  · have := h.inc; dsimp only; omega
  · have := h.conf; dsimp only; omega
  · dsimp only; omega
  · intro hg
    dsimp only at hg ⊢
    by_cases h4 : σ.rest < 4
    · rw [if_pos h4] at hi
      have := h.since h4
      omega
    · rw [if_neg h4] at hi; omega
theorem conf_zero {Q : List (List Int)} {σ : St} {c : Nat} (h : InvP Q σ) (hQ : Q.length ≤ 40) (hst : (σ.w c).st ≠ 0) (hall : ∀ x ∈ (σ.w c).lits, σ.t.value x = -1) (hd : σ.t.dep = 0) :
    CfReady σ c ∧ (gConfl σ c).2 = false ∧ RefEnd Q (gConfl σ c).1 := by
  obtain ⟨hA, href⟩ := analyze_zero h.pi hall hst hd
  have herr : (gAnalyze σ.w σ.t c).err = 10 := by rw [hA]
  have hcf := h.conf_le
  have hinc := h.ib.inc
  refine ⟨⟨hst, hall, fun h0 => (by rw [herr] at h0; cases h0), fun h0 => (by rw [herr] at h0; cases h0), fun h0 => (by rw [herr] at h0; cases h0), fun k hk ha => (h.ib.alive k hk).1 ha, by have := h.ib.llen; omega, by have := h.ib.count; have := cntB_le σ.alive 12; omega, by omega, by have := h.ib.rest; omega, by have := h.ib.conf; omega, by omega, fun v hv => by have := h.ib.act v hv; omega⟩, ?_⟩
  unfold gConfl
  rw [if_pos (by rw [herr]; decide)]
  refine ⟨rfl, ?_⟩
  obtain ⟨rows, L, l1, l2, l3, l4, l5⟩ := h.ib.lg
  have hLn : ∀ c ∈ L, NF c := fun c hc => liveL_NF h.pi.wg c (l4.mem_iff.1 hc)
  have hnil : NF ([] : List Int) := ⟨by simp, by simp⟩
  have hturn := turn_add (L := L) (l := []) hLn hnil (href L (liveL_cov h.pi.wg fun x hx => l4.mem_iff.2 hx)) (by rw [l4.length_eq]; have := liveL_len σ.w; omega)
  have hmc : gMC 0 Q (rows ++ [(false, [])]) = (0, 0, 0) := by
    rw [gMC_steps rows _ Q L 0 l3, gMC_turn, hturn]
    simp only [ne_eq, not_true_eq_false, if_false, gMC]
    rw [if_pos (by simp)]
  have hfin := h.ib.fin hcf
  refine ⟨⟨rows, L, by dsimp only; rw [l1]; exact note_add, l2, l3, l4, by dsimp only; omega, hmc⟩, ?_, h.pi.wg, h.ib.prob, ?_, ?_, h.ib.since⟩
  · have := h.ib.llen
    dsimp only
    simp [gNote]
    omega
  · refine ⟨rfl, ?_, hfin.act0, hfin.phase0, hfin.act, hfin.phase, hfin.alive, hfin.high, hfin.count, hfin.rest, ?_, ?_, hfin.int⟩
    · have := hfin.inc; exact this
    · have := h.ib.conf; dsimp only; omega
    · dsimp only; omega
  · have := h.ib.conf; dsimp only; omega
def mu (σ : St) : Nat := (4106 - σ.conf) * 16 + (12 - σ.t.es.length)
theorem conf_of {Q : List (List Int)} {σ : St} (h : Inv Q σ) (hc : (gProp σ.w σ.t).2.2 ≥ 0) : ((gStepP σ).w (gProp σ.w σ.t).2.2.toNat).st ≠ 0 ∧ ∀ x ∈ ((gStepP σ).w (gProp σ.w σ.t).2.2.toNat).lits, (gStepP σ).t.value x = -1 := by
  obtain ⟨_, _, _, p4, _⟩ := gProp_is h.pi
  obtain ⟨c, h1, h2, h3, h4⟩ := p4 hc
  have e : (gProp σ.w σ.t).2.2.toNat = c := by rw [h1]; simp
  rw [e]
  exact ⟨h3, h4⟩
theorem runs (Q : List (List Int)) (hQ : Q.length ≤ 40) : Runs (Inv Q) mu := by
  refine ⟨fun σ h hc => ?_, fun σ h hc ht => ?_, fun σ h hc hf => ?_, fun σ h hc hlen => ?_⟩
  · have hp := prop_InvP h
    obtain ⟨a, b⟩ := conf_of h hc
    by_cases hd : (gStepP σ).t.dep = 0
    · exact (conf_zero hp hQ a b hd).1
    · exact (conf_up hp a b hd).1
  · have hp := prop_InvP h
    obtain ⟨a, b⟩ := conf_of h hc
    by_cases hd : (gStepP σ).t.dep = 0
    · rw [(conf_zero hp hQ a b hd).2.1] at ht; cases ht
    · obtain ⟨_, m, herr⟩ := conf_up hp a b hd
      unfold gConfl
      rw [if_neg (by rw [herr]; simp)]
      obtain ⟨i1, i2⟩ := restart_Inv hp m
      refine ⟨i1, ?_⟩
      have hcf := hp.conf_le
      have e : (gStepP σ).conf = σ.conf := rfl
      unfold mu
      dsimp only
      rw [i2, e]
      rw [e] at hcf
      omega
  · have hp := prop_InvP h
    obtain ⟨a, b⟩ := conf_of h hc
    by_cases hd : (gStepP σ).t.dep = 0
    · obtain ⟨rows, L, l1, l2, _⟩ := (conf_zero hp hQ a b hd).2.2.rows
      have hn : ∀ r ∈ rows ++ [(false, ([] : List Int))], NF r.2 := by
        intro r hr
        rw [List.mem_append] at hr
        rcases hr with hr | hr
        · exact (l2 r hr).1
        · simp at hr; subst hr; exact ⟨by simp, by simp⟩
      refine ⟨(conf_zero hp hQ a b hd).2.2.llen, ?_, ?_⟩
      · rw [l1]; exact check_flat hn
      · rw [l1]; exact flat_el hn
    · obtain ⟨_, m, herr⟩ := conf_up hp a b hd
      unfold gConfl at hf
      rw [if_neg (by rw [herr]; simp)] at hf
      cases hf
  · have hp := prop_InvP h
    obtain ⟨p1, p2, p3, p4, p5⟩ := gProp_is h.pi
    obtain ⟨h1, h2⟩ := pick_ok hp hlen
    refine ⟨hp.ib.phase, h1, h2, dec_Inv hp (p5 hc) hlen, ?_⟩
    have hl := hp.pi.tg.len
    have e1 : (gDec (gStepP σ)).t.es.length = (gStepP σ).t.es.length + 1 := by
      show (((gStepP σ).t.es ++ [_]).length) = _
      simp
    have e2 : (gDec (gStepP σ)).conf = σ.conf := rfl
    have e3 : σ.t.es.length ≤ (gStepP σ).t.es.length := by
      obtain ⟨_, fs, hfs⟩ := p3
      show _ ≤ (gProp σ.w σ.t).2.1.es.length
      rw [hfs]; simp
    unfold mu
    rw [e1, e2]
    omega

theorem run_end (Q : List (List Int)) (hQ : Q.length ≤ 40) : ∀ (n : Nat) (σ : St), Inv Q σ → mu σ < n → ((gRun n σ).1 = true ∧ SatEnd Q (gRun n σ).2) ∨ ((gRun n σ).1 = false ∧ RefEnd Q (gRun n σ).2)
  | 0, σ, _, h => by omega
  | n + 1, σ, hi, hm => by
    have hr := runs Q hQ
    have hp := prop_InvP hi
    obtain ⟨p1, p2, p3, p4, p5⟩ := gProp_is hi.pi
    simp only [gRun]
    by_cases hc : (gProp σ.w σ.t).2.2 ≥ 0
    · rw [if_pos hc]
      by_cases ht : (gConfl (gStepP σ) (gProp σ.w σ.t).2.2.toNat).2 = true
      · rw [if_pos ht]
        obtain ⟨i1, i2⟩ := hr.next σ hi hc ht
        exact run_end Q hQ n _ i1 (by omega)
      · rw [if_neg ht]
        right
        refine ⟨rfl, ?_⟩
        obtain ⟨a, b⟩ := conf_of hi hc
        by_cases hd : (gStepP σ).t.dep = 0
        · exact (conf_zero hp hQ a b hd).2.2
        · exfalso
          obtain ⟨_, m, herr⟩ := conf_up hp a b hd
          apply ht
          unfold gConfl
          rw [if_neg (by rw [herr]; simp)]
    · rw [if_neg hc]
      by_cases hl : (gStepP σ).t.es.length = 12
      · rw [if_pos hl]
        left
        exact ⟨rfl, hp.pi, hl, p5 (by omega), hp.ib, hp.ib.fin hp.conf_le⟩
      · rw [if_neg hl]
        obtain ⟨_, _, _, i1, i2⟩ := hr.dec σ hi (by omega) hl
        exact run_end Q hQ n _ i1 (by omega)
end Go.Proofs.Qxb6500974aGreat
