import Derived.Test.Qxb6500974aGreatR25
set_option linter.all false
set_option linter.unusedSimpArgs false
set_option linter.unusedVariables false
namespace Go.Proofs.Qxb6500974aGreat
open Go.Eng

theorem turn_len (L : List (List Int)) (r : Bool × List Int) : (gTurn L r).2.length ≤ L.length + (if r.1 = true then 0 else 1) := by
  unfold gTurn
  repeat' split
  all_goals simp_all
  all_goals simp [List.length_eraseIdx]
  all_goals (repeat' split)
  all_goals omega
theorem steps_len : ∀ (rows : List (Bool × List Int)) (Q L : List (List Int)), gSteps Q rows = some L → L.length ≤ Q.length + adds rows
  | [], Q, L, h => by
    simp only [gSteps, Option.some.injEq] at h
    subst h; omega
  | r :: rs, Q, L, h => by
    simp only [gSteps] at h
    split at h
    · have ih := steps_len rs _ L h
      have h1 := turn_len Q r
      have h2 : adds (r :: rs) = (if r.1 = true then 0 else 1) + adds rs := by
        unfold adds
        cases hr : r.1 with
        | true => simp [List.filter_cons, hr]
        | false => simp [List.filter_cons, hr]; omega
      omega
    · cases h

structure Ended (t : List UInt8) (Q : List (List Int)) (σ : St) : Prop where
  prob : gProblem t = (Q, 0, 0)
  nf : ∀ q ∈ Q, NF q
  len : Q.length ≤ 40
  aft : ∀ σ0, gAfter 70000 σ0 t = { σ with log := [] }
theorem gA_cases (t : List UInt8) : (∃ e q, e ≠ 0 ∧ gA t = ⟨e, q, false, [], [], 0, 0⟩ ∧ (gProblem t).2 = (e, q)) ∨
    ∃ Q σ, Ended t Q σ ∧ ((SatEnd Q σ ∧ gA t = ⟨0, 0, true, gModelA σ.t 12 1, [], σ.conf, σ.rest⟩) ∨ (RefEnd Q σ ∧ gA t = ⟨0, 0, false, [], gPrint σ.log, σ.conf, σ.rest⟩)) := by
  obtain ⟨R, hR, hn⟩ := parse_rows t
  have hp := problem_is t hR hn
  unfold gA gAns
  rw [rParse_eq]
  by_cases h1 : (gParse t).1 ≠ 0
  · rw [if_pos h1] at hp
    rw [if_pos h1, hp]
    exact .inl ⟨_, _, h1, rfl, rfl⟩
  rw [if_neg h1] at hp
  rw [if_neg h1, hR]
  by_cases h2 : gSurvey 0 (flatOf R) ≠ 0
  · rw [if_pos h2] at hp
    rw [if_pos h2, hp]
    exact .inl ⟨_, _, h2, rfl, rfl⟩
  rw [if_neg h2] at hp
  rw [if_neg h2]
  have hs := survey_ok R 0 hn (by simpa using h2)
  refine .inr ⟨R.map Prod.snd, (gRun 70000 (gInit (flatOf R))).2, ⟨hp, ?_, by rw [List.length_map]; omega, ?_⟩, ?_⟩
  · intro q hq
    obtain ⟨r, hr, rfl⟩ := List.mem_map.1 hq
    exact hn r hr
  · intro σ0
    unfold gAfter
    rw [rParse_eq, if_neg h1, hR, if_neg h2]
  · rcases run_R hn hs.1 (by omega) with ⟨h3, h4⟩ | ⟨h3, h4⟩
    · refine .inl ⟨h4, ?_⟩
      unfold ansOf
      rw [if_pos h3]
    · refine .inr ⟨h4, ?_⟩
      unfold ansOf
      rw [if_neg (by rw [h3]; simp)]
theorem gA_model_len (t : List UInt8) : (gA t).model.length ≤ 12 := by
  rcases gA_cases t with ⟨e, q, _, h, _⟩ | ⟨Q, σ, _, ⟨_, h⟩ | ⟨_, h⟩⟩
  · rw [h]; simp
  · rw [h]; simp [gModelA_len]
  · rw [h]; simp
theorem SatEnd.values {Q : List (List Int)} {σ : St} (h : SatEnd Q σ) : ∀ x ∈ gModelA σ.t 12 1, σ.t.value x = 1 := by
  intro x hx
  obtain ⟨i, hi, he⟩ := List.mem_iff_getElem.1 hx
  have hi2 := hi
  rw [gModelA_len] at hi2
  have e : x = gModel σ.t (1 + i) := by
    have := gModelA_get σ.t 12 1 i hi2
    rw [← this, ← he]
    simp [List.getD, hi]
  rw [e]
  unfold gModel
  have hg : goGoodLit ((1 + i : Nat) : Int) = true := by
    have : i = 0 ∨ i = 1 ∨ i = 2 ∨ i = 3 ∨ i = 4 ∨ i = 5 ∨ i = 6 ∨ i = 7 ∨ i = 8 ∨ i = 9 ∨ i = 10 ∨ i = 11 := by omega
    rcases this with rfl | rfl | rfl | rfl | rfl | rfl | rfl | rfl | rfl | rfl | rfl | rfl <;> rfl
  split
  · assumption
  · rename_i h0
    rcases full_val h.pi.tg h.full hg with h1 | h1
    · exact (h0 ((val_one h.pi.tg hg).2 h1)).elim
    · exact (val_one h.pi.tg (good_neg hg)).2 h1
theorem SatEnd.ne {Q : List (List Int)} {σ : St} (h : SatEnd Q σ) : ∀ c ∈ liveL σ.w, c ≠ [] := by
  intro c hc
  obtain ⟨id, _, h1, h2⟩ := liveL_mem.1 hc
  rw [← h2]
  obtain ⟨x, hx, _⟩ := h.clause h1
  exact nf_nil (h.pi.wg.cl id) (fun h0 => by rw [h0] at hx; cases hx)
theorem SatEnd.few {Q : List (List Int)} {σ : St} (h : SatEnd Q σ) : (liveL σ.w).length ≤ Q.length + σ.conf := by
  obtain ⟨rows, L, l1, l2, l3, l4, l5⟩ := h.ib.lg
  have := steps_len rows Q L l3
  rw [l4.length_eq] at this
  omega
end Go.Proofs.Qxb6500974aGreat
