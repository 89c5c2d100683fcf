import Derived.Test.Qxb6500974aGreatR22
set_option linter.all false
set_option linter.unusedSimpArgs false
set_option linter.unusedVariables false
namespace Go.Proofs.Qxb6500974aGreat
open Go.Eng
variable {W0 : World}

structure Tw.Next (T T' : Tw) (m : Mem) : Prop where
  x : T'.x = T.x
  B : T'.B = T.B
  q : T'.q = T.q
  k : T'.k = T.k
  ins : InS T.foot m T'.foot
def gA (t : List UInt8) : Ans := gAns 70000 t
theorem gAfter_fin {σ : St} (h : FinOK σ) (t : List UInt8) : FinOK (gAfter 70000 σ t) := by
  unfold gAfter
  obtain ⟨R, hR, hn⟩ := parse_rows t
  rw [rParse_eq, hR]
  split
  · exact h
  · split
    · exact h
    · rename_i h1 h2
      have hs := survey_ok R 0 hn (by simpa using h2)
      rcases run_R hn hs.1 (by omega) with ⟨_, h3⟩ | ⟨_, h3⟩
      · exact h3.fin
      · exact h3.fin
theorem tsolve_spec {T : Tw} {text : ByteArray} {K : Value → Mem → Prop} {m : Mem} (h : TwAt m T)
    (hK : ∀ (T' : Tw) a n s m', m'.Ok → Kp T.foot m m' → T.Next T' m → TwAt m' T' → T'.σ = gAfter 70000 T.σ (bts text) → T'.S = T.S → InS [] m (blkOf a) → (∀ x ∈ blkOf a, x ∉ T'.foot) → ModelV m' a n (gA (bts text)).model → bts s = (gA (bts text)).proof →
      K (.agg #[(.int .i64 (gA (bts text)).err), (.int .i64 (gA (bts text)).pos), (.bool (gA (bts text)).sat), (.slice a n n), (.string s), (.int .i64 (gA (bts text)).conf), (.int .i64 (gA (bts text)).rest)]) m') : callOK Tryz.prog W0 11 [ptr T.B.s 0, .string text] K m := by
  refine callOK_ok fun ok => ?_
  have hlt := h.lt ok
  obtain ⟨R, hR, hn⟩ := parse_rows (bts text)
  have hlen := (gParse_good (bts text)).2
  have hX : ∃ I : St → Prop, Runs I mu ∧ ((rParse (bts text)).1 = 0 → gSurvey 0 (rParse (bts text)).2.2 = 0 → LoadOK [] (rParse (bts text)).2.2 0 ∧ I (gInit (rParse (bts text)).2.2) ∧ mu (gInit (rParse (bts text)).2.2) < 70000) := by
    rw [rParse_eq, hR]
    by_cases h2 : gSurvey 0 (flatOf R) = 0
    · have hs := survey_ok R 0 hn h2
      have hq : (R.map Prod.snd).length ≤ 40 := by rw [List.length_map]; omega
      exact ⟨Inv (R.map Prod.snd), runs _ hq, fun _ _ => ⟨load_ok R 0 hn hs.1 (by omega), init_Inv hn hs.1 (by omega), init_mu _⟩⟩
    · exact ⟨fun _ => False, ⟨fun _ h => h.elim, fun _ h => h.elim, fun _ h => h.elim, fun _ h => h.elim⟩, fun _ h3 => (h2 h3).elim⟩
  obtain ⟨I, hI, hload⟩ := hX
  refine solve_spec (N := 70000) (I := I) (μ := mu) h.d h.sol h.fin.log hI hload ?_ ?_
  · rw [rParse_eq]; omega
  · intro la' aa' a n s m' ok' kp' in' ina nda sol' mv hs
    refine hK { T with la := la', aa := aa', σ := gAfter 70000 T.σ (bts text) } a n s m' ok' (kp'.mono fun x hx => by simp [Tw.foot, hx]) ⟨rfl, rfl, rfl, rfl, ?_⟩ ⟨h.bk.keep kp', h.d, sol', h.ck.keep kp' fun x hx h0 => h.dis x h0 hx, ?_, gAfter_fin h.fin _⟩ rfl rfl ina ?_ mv hs
    · intro x hx
      simp only [Tw.foot, List.mem_append] at hx
      rcases hx with hx | hx
      · exact (in' x hx).orMap (fun h0 => by simp [Tw.foot, h0]) id
      · exact .inl (by simp [Tw.foot, hx])
    · intro x hx h0
      rcases in' x hx with h1 | h1
      · exact h.dis x h1 h0
      · have := hlt x (by simp only [Tw.foot, List.mem_append]; exact .inr h0)
        omega
    · intro x hx h0
      simp only [Tw.foot, List.mem_append] at h0
      rcases h0 with h0 | h0
      · exact nda x hx h0
      · rcases ina x hx with h1 | h1
        · cases h1
        · have := hlt x (by simp only [Tw.foot, List.mem_append]; exact .inr h0)
          omega
theorem tcheck_spec {T : Tw} {tp tq : ByteArray} {K : Value → Mem → Prop} {m : Mem} (h : TwAt m T)
    (hK : ∀ (T' : Tw) m', m'.Ok → Kp T.foot m m' → T.Next T' m → TwAt m' T' → T'.σ = T.σ →
      K (.agg #[(.int .i64 (gMCheck (bts tp) (bts tq)).1), (.int .i64 (gMCheck (bts tp) (bts tq)).2.1), (.int .i64 (gMCheck (bts tp) (bts tq)).2.2)]) m') : callOK Tryz.prog W0 12 [ptr T.k 0, .string tp, .string tq] K m := by
  refine callOK_ok fun ok => ?_
  have hlt := h.lt ok
  obtain ⟨Rp, hRp, hnp⟩ := parse_rows (bts tp)
  obtain ⟨Rq, hRq, hnq⟩ := parse_rows (bts tq)
  have hlp := (gParse_good (bts tp)).2
  have hlq := (gParse_good (bts tq)).2
  rw [hRp] at hlp
  rw [hRq] at hlq
  have e := check_is (bts tp) (bts tq) hRp hnp hRq hnq
  refine ccheck_spec (Rp := Rp) (Rq := Rq) h.ck ⟨by rw [rParse_eq]; exact hRp, by omega, hnp⟩ ⟨by rw [rParse_eq]; exact hRq, by omega, hnq⟩ (fun h2 => by have hs := survey_ok Rp 0 hnp h2; omega) ?_
  rw [e]
  intro S' aa' m' ok' kp' in' ck'
  refine hK { T with qa := aa', S := S' } m' ok' (kp'.mono fun x hx => by simp [Tw.foot, hx]) ⟨rfl, rfl, rfl, rfl, ?_⟩ ⟨h.bk.keep kp', h.d, h.sol.keep kp' fun x hx h0 => h.dis x hx h0, ck', ?_, h.fin⟩ rfl
  · intro x hx
    simp only [Tw.foot, List.mem_append] at hx
    rcases hx with hx | hx
    · exact .inl (by simp [Tw.foot, hx])
    · exact (in' x hx).orMap (fun h0 => by simp [Tw.foot, h0]) id
  · intro x hx h0
    rcases in' x h0 with h1 | h1
    · exact h.dis x hx h1
    · have := hlt x (by simp only [Tw.foot, List.mem_append]; exact .inl hx)
      omega
theorem tinv_spec {T : Tw} {K : Value → Mem → Prop} {m : Mem} (h : TwAt m T) (hK : ∀ m', m'.Ok → Kp [] m m' → K (.bool true) m') : callOK Tryz.prog W0 16 [ptr T.B.s 0] K m := scheck_spec h.sol.sat h.fin hK
theorem tclean_spec {T : Tw} {K : Value → Mem → Prop} {m : Mem} (h : TwAt m T) (hK : K (.bool true) m) : callOK Tryz.prog W0 17 [ptr T.k 0] K m := clean_spec h.ck.ch hK
end Go.Proofs.Qxb6500974aGreat
