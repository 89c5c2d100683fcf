import Derived.Test.Qxb6500974aGreatR15
set_option linter.all false
set_option linter.unusedSimpArgs false
set_option linter.unusedVariables false
namespace Go.Proofs.Qxb6500974aGreat
open Go.Eng
variable {W0 : World}

def cntB (f : Nat → Bool) : Nat → Nat
  | 0 => 0
  | n + 1 => cntB f n + (if f n = true then 1 else 0)
theorem cntB_le (f : Nat → Bool) : ∀ n, cntB f n ≤ n
  | 0 => by simp [cntB]
  | n + 1 => by simp only [cntB]; have := cntB_le f n; split <;> omega
structure FinOK (σ : St) : Prop where
  log : σ.log = []
  inc : 1 ≤ σ.inc ∧ σ.inc ≤ 4107
  act0 : σ.act 0 = 0
  phase0 : σ.phase 0 = -1
  act : ∀ v, v < 13 → 0 ≤ σ.act v
  phase : ∀ v, v < 13 → σ.phase v = 1 ∨ σ.phase v = -1
  alive : ∀ k, k < 12 → (σ.alive k = true ↔ (σ.w (40 + k)).st ≠ 0)
  high : ∀ k, 12 ≤ k → k < 16 → σ.alive k = false
  count : σ.count = cntB σ.alive 12
  rest : σ.rest ≤ 4
  since : σ.since ≤ σ.conf
  conf : σ.conf ≤ 4106
  int : goInterval σ.rest > 0 → (σ.since : Int) < goInterval σ.rest
theorem scheck_spec {B : Bk} {la : Option Addr} {σ : St} {K : Value → Mem → Prop} {m : Mem} (h : Sat m B la σ) (hf : FinOK σ) (hK : ∀ m', m'.Ok → Kp [] m m' → K (.bool true) m') : callOK Tryz.prog W0 16 [ptr B.s 0] K m := by
  refine callOK_ok fun ok => call16 ?_
  obtain ⟨c, hc⟩ := h.s
  unfold s16
  refine ⟨_, _, _, hc.so.log, ?_⟩
  have hl0 : c.log.2.1 = 0 := by rw [hc.own.len, hf.log]; rfl
  rw [hl0]
  with_reducible refine ifB_ne (fun h0 => absurd rfl h0) (fun _ => ?_)
  refine ⟨_, hc.so.inc, ?_⟩
  rw [hc.rep.inc]
  have := hf.inc
  refine ifB_lt (fun h0 => ?_) (fun _ => ?_)
  · have hF : False := by omega
    cases hF
  refine ⟨_, hc.so.inc, ?_⟩
  rw [hc.rep.inc]
  refine ifB_gt (fun h0 => ?_) (fun _ => ?_)
  · have hF : False := by omega
    cases hF
  refine ⟨by omega, by omega, ?_⟩
  refine ⟨_, hc.so.act (by simp), ?_⟩
  dsimp only
  have e0 : c.act (Int.toNat 0) = 0 := by rw [hc.rep.act _ (by simp)]; exact hf.act0
  rw [e0]
  with_reducible refine ifB_ne (fun h0 => absurd rfl h0) (fun _ => ?_)
  refine ⟨by omega, by omega, ?_⟩
  refine ⟨_, hc.so.phase (by simp), ?_⟩
  dsimp only
  have e1 : c.phase (Int.toNat 0) = -1 := by rw [hc.rep.phase _ (by simp)]; exact hf.phase0
  rw [e1]
  with_reducible refine ifB_ne (fun h0 => absurd rfl h0) (fun _ => ?_)
  refine loop16_1 (γ := Nat) (fun k t2 v m' => m' = m ∧ v = k ∧ 1 ≤ k ∧ k ≤ 13) (fun k _ _ => 13 - k) 1 ⟨rfl, rfl, by omega, by omega⟩ ?_
  rintro k t2 v m' ⟨rfl, rfl, hk1, hk2⟩
  unfold s16_1
  refine ifB_le (fun hle => ?_) (fun hle => ?_)
  · have hk13 : k < 13 := by omega
    have ha := hf.act k hk13
    have hp := hf.phase k hk13
    refine ⟨by omega, by omega, ?_⟩
    simp only [Int.toNat_natCast]
    refine ⟨_, hc.so.act hk13, ?_⟩
    dsimp only
    rw [hc.rep.act k hk13]
    refine ifB_lt (fun h0 => ?_) (fun _ => ?_)
    · have hF : False := by omega
      cases hF
    refine ⟨by omega, by omega, ?_⟩
    simp only [Int.toNat_natCast]
    refine ⟨_, hc.so.phase hk13, ?_⟩
    dsimp only
    rw [hc.rep.phase k hk13]
    refine ifB_ne (fun hne => ?_) (fun _ => ?_)
    · refine ⟨by omega, by omega, ?_⟩
      simp only [Int.toNat_natCast]
      refine ⟨_, hc.so.phase hk13, ?_⟩
      dsimp only
      rw [hc.rep.phase k hk13]
      refine ifB_ne (fun hne2 => ?_) (fun _ => ?_)
      · have hF : False := by omega
        cases hF
      exact ⟨k + 1, _, _, rfl, ⟨rfl, wrapS k (by omega), by omega, by omega⟩, by omega⟩
    · exact ⟨k + 1, _, _, rfl, ⟨rfl, wrapS k (by omega), by omega, by omega⟩, by omega⟩
  · rw [e16_1x0]
    unfold s16_1x0
    refine loop16_2 (γ := Nat) (fun k t2 n k5 m1 => m1.Ok ∧ Kp [] m' m1 ∧ k5 = k ∧ k ≤ 12 ∧ n = ((cntB σ.alive k : Nat) : Int)) (fun k _ _ _ => 12 - k) 0 ⟨ok, Kp.refl _ _, rfl, by omega, rfl⟩ ?_
    rintro k t2 n k5 m1 ⟨ok1, kp1, rfl, hk, rfl⟩
    have h1 := h.keep kp1 (fun _ _ => by simp)
    obtain ⟨c1, hc1⟩ := h1.s
    unfold s16_2
    refine ifB_lt (fun hlt => ?_) (fun hlt => ?_)
    · have hk12 : k < 12 := by omega
      have hw40 : IntKind.wrap .i64 (40 + (k : Int)) = ((40 + k : Nat) : Int) := by rw [wrap_i64 (by omega) (by omega)]; omega
      rw [hw40]
      refine ⟨_, hc1.so.w, ?_⟩
      rw [hc1.w]
      have hlb : liveB σ.w ((40 + k : Nat) : Int) = decide ((σ.w (40 + k)).st ≠ 0) := by
        simp only [liveB, Int.toNat_natCast]
        have : decide (0 ≤ ((40 + k : Nat) : Int)) = true := by simp; omega
        rw [this, Bool.true_and]
      have hal := hf.alive k hk12
      have hcl := cntB_le σ.alive k
      have fin : ∀ (m2 : Mem) (e : Int), m2.Ok → Kp [] m1 m2 → (e = 0 ↔ σ.alive k = true) → ∀ Kt : Exit → Fr → Mem → Prop, (∀ n', n' = ((cntB σ.alive (k + 1) : Nat) : Int) → Kt .normal [(0, ptr B.s 0), (2, .bool t2), (4, .int .i64 n'), (5, .int .i64 (IntKind.wrap .i64 ((k : Int) + 1)))] m2) →
          ldInt .u16 m2 B.s 32 fun x_18 => (0 : Int) ≤ (IntKind.wrap .u64 (k : Int)) ∧
          ifB (!(((bAnd .u16 (shrV .u16 x_18 (IntKind.wrap .u64 (k : Int))) 1) == 1) == (e == 0)))
          (Kt .ret [(0, ptr B.s 0), (2, .bool false), (4, .int .i64 ((cntB σ.alive k : Nat) : Int)), (5, .int .i64 (k : Int))] m2)
          (ifB ((bAnd .u16 (shrV .u16 x_18 (IntKind.wrap .u64 (k : Int))) 1) == 1)
          (Kt .normal [(0, ptr B.s 0), (2, .bool t2), (4, .int .i64 (IntKind.wrap .i64 (((cntB σ.alive k : Nat) : Int) + 1))), (5, .int .i64 (IntKind.wrap .i64 ((k : Int) + 1)))] m2)
          (Kt .normal [(0, ptr B.s 0), (2, .bool t2), (4, .int .i64 ((cntB σ.alive k : Nat) : Int)), (5, .int .i64 (IntKind.wrap .i64 ((k : Int) + 1)))] m2)) := by
        intro m2 e ok2 kp2 he Kt hKt
        have hc2 := hc1.keep kp2 (by simp) (fun _ _ => by simp)
        refine ⟨_, hc2.so.alive, wrap_u64_nonneg _, ?_⟩
        rw [has16_eq hc2.rep.alive.1 (by omega), hc2.rep.alive.2 k (by omega)]
        by_cases ha : σ.alive k = true
        · have hb : (e == 0) = true := by simpa using he.2 ha
          rw [ha, hb]
          with_reducible refine ifB_not (fun h0 => by simp at h0) (fun _ => ?_)
          with_reducible refine ifB_of (fun _ => ?_) (fun h0 => by cases h0)
          refine hKt _ ?_
          simp only [cntB]
          rw [if_pos ha, wrap_i64 (by omega) (by omega)]; omega
        · have hb : (e == 0) = false := by simpa using fun h9 => ha (he.1 h9)
          rw [Bool.eq_false_iff.2 ha, hb]
          with_reducible refine ifB_not (fun h0 => by simp at h0) (fun _ => ?_)
          with_reducible refine ifB_of (fun h0 => by cases h0) (fun _ => ?_)
          refine hKt _ ?_
          simp only [cntB]
          rw [if_neg ha]; omega
      refine clause_spec h1.w (fun hdead => ?_) (fun hlive a2 n2 c2 m2 ok2 kp2 _ => ?_)
      · refine ⟨_, _, _, _, rfl, ?_⟩
        rw [hlb] at hdead
        refine fin m1 13 ok1 (Kp.refl _ _) (Iff.intro (fun h0 => by simp at h0) (fun h0 => absurd (hal.1 h0) (by simpa using hdead))) _ ?_
        intro n' hn'
        exact ⟨k + 1, _, _, _, rfl, ⟨ok1, kp1, wrapS k (by omega), by omega, hn'⟩, by omega⟩
      · refine ⟨_, _, _, _, rfl, ?_⟩
        rw [hlb] at hlive
        refine fin m2 0 ok2 kp2 ⟨fun _ => hal.2 (by simpa using hlive), fun _ => rfl⟩ _ ?_
        intro n' hn'
        exact ⟨k + 1, _, _, _, rfl, ⟨ok2, kp1.trans kp2, wrapS k (by omega), by omega, hn'⟩, by omega⟩
    · have : k = 12 := by omega
      subst this
      rw [e16_2x2]
      unfold s16_2x2
      refine ⟨_, hc1.so.count, ?_⟩
      rw [hc1.rep.count, hf.count]
      refine ifB_ne (fun h0 => absurd rfl h0) (fun _ => ?_)
      refine ⟨_, hc1.so.alive, by omega, ?_⟩
      have hsh : shrV .u16 c1.alive 12 = 0 := by
        have := shr16 hc1.rep.alive.1 (j := 12) (by omega)
        have e12 : IntKind.wrap .u64 ((12 : Nat) : Int) = 12 := by simp [IntKind.wrap, IntKind.signed, IntKind.bits]
        rw [e12] at this
        rw [this]
        have hu := hc1.rep.alive.1
        have hz : c1.alive.toNat / 2 ^ 12 = 0 := by
          apply Nat.eq_of_testBit_eq
          intro i
          rw [Nat.testBit_div_two_pow, Nat.zero_testBit]
          by_cases hi : i + 12 < 16
          · have := hc1.rep.alive.2 (i + 12) hi
            rw [hf.high (i + 12) (by omega) hi] at this
            exact this
          · exact tb_big16 hu (by omega)
        rw [hz]; rfl
      rw [hsh]
      with_reducible refine ifB_ne (fun h0 => absurd rfl h0) (fun _ => ?_)
      have hr := hf.rest
      have hs := hf.since
      have hcf := hf.conf
      refine ⟨_, hc1.so.restarts, ?_⟩
      rw [hc1.rep.rest]
      refine ifB_lt (fun h0 => ?_) (fun _ => ?_)
      · have hF : False := by omega
        cases hF
      refine ⟨_, hc1.so.restarts, ?_⟩
      rw [hc1.rep.rest]
      refine ifB_gt (fun h0 => ?_) (fun _ => ?_)
      · have hF : False := by omega
        cases hF
      refine ⟨_, hc1.so.since, ?_⟩
      rw [hc1.rep.since]
      refine ifB_lt (fun h0 => ?_) (fun _ => ?_)
      · have hF : False := by omega
        cases hF
      refine ⟨_, hc1.so.since, _, hc1.so.conflicts, ?_⟩
      rw [hc1.rep.since, hc1.rep.conf]
      refine ifB_gt (fun h0 => ?_) (fun _ => ?_)
      · have hF : False := by omega
        cases hF
      refine ⟨_, hc1.so.conflicts, ?_⟩
      rw [hc1.rep.conf]
      refine ifB_gt (fun h0 => ?_) (fun _ => ?_)
      · have hF : False := by omega
        cases hF
      refine ⟨_, hc1.so.restarts, ?_⟩
      dsimp only
      rw [hc1.rep.rest]
      refine ifB_gt (fun hg => ?_) (fun _ => ?_)
      · have hi := hf.int hg
        refine ⟨_, hc1.so.since, ?_⟩
        dsimp only
        rw [hc1.rep.since]
        refine ifB_ge (fun h0 => ?_) (fun _ => hK m1 ok1 kp1)
        have hF : False := by omega
        cases hF
      · exact hK m1 ok1 kp1
end Go.Proofs.Qxb6500974aGreat
