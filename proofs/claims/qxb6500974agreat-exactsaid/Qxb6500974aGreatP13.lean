import Derived.Test.Qxb6500974aGreatP12
set_option linter.all false
set_option linter.unusedSimpArgs false
set_option linter.unusedVariables false
namespace Go.Proofs.Qxb6500974aGreat
open Go.Eng

theorem and_one_i64 {n : Nat} (hn : n < 4096) : (bAnd .i64 (n : Int) 1 == 1) = decide (n % 2 = 1) := by
  have h1 : (BitVec.ofInt (IntKind.bits .i64) (n : Int)).toNat = n := by
    rw [BitVec.toNat_ofInt]
    simp only [IntKind.bits]
    omega
  have h2 : (BitVec.ofInt (IntKind.bits .i64) 1).toNat = 1 := rfl
  have e : bAnd .i64 (n : Int) 1 = ((n % 2 : Nat) : Int) := by
    unfold bAnd
    rw [BitVec.toNat_and, h1, h2, Nat.and_one_is_mod]
    exact wrap_i64 (by omega) (by omega)
  rw [e]
  by_cases hp : n % 2 = 1
  · rw [hp]; rfl
  · have : n % 2 = 0 := by omega
    rw [this]; rfl
theorem shr_i64 {n j : Nat} (hj : j < 12) : shrV .i64 (n : Int) (IntKind.wrap .u64 (j : Int)) = ((n / 2 ^ j : Nat) : Int) := by
  unfold shrV
  rw [wrap_u64 (n := (j : Int)) (by omega) (by omega)]
  have h1 : min ((j : Int).toNat) (IntKind.bits .i64) = j := by simp [IntKind.bits]; omega
  rw [h1]
  have h2 : (2 : Int) ^ j = ((2 ^ j : Nat) : Int) := by simp
  rw [h2, Int.fdiv_eq_ediv_of_nonneg _ (Int.natCast_nonneg _)]
  simp
theorem goTrue_eq {x : Int} (hx : goGoodLit x = true) {k : Nat} (hk : k < 4096) : goTrue x (k : Int) = (k.testBit (x.natAbs - 1) == decide (x > 0)) := by
  have ha := good_abs hx
  unfold goTrue
  rw [ha.2.2.2.2]
  have hw : IntKind.wrap .i64 (((x.natAbs : Nat) : Int) - 1) = ((x.natAbs - 1 : Nat) : Int) := by rw [wrap_i64 (by omega) (by omega)]; omega
  rw [hw, shr_i64 (by omega)]
  have hd : k / 2 ^ (x.natAbs - 1) < 4096 := by
    have := Nat.div_le_self k (2 ^ (x.natAbs - 1))
    omega
  rw [and_one_i64 hd, Nat.testBit_eq_decide_div_mod_eq]

def MM (k : Nat) (x : Int) : Prop := goGoodLit x = true ∧ goTrue x (k : Int) = true
theorem MM_asg {k : Nat} (hk : k < 4096) : Asg (MM k) := by
  have flip : ∀ x, goGoodLit x = true → goTrue (-x) (k : Int) = !goTrue x (k : Int) := by
    intro x hx
    have ha := good_abs hx
    rw [goTrue_eq hx hk, goTrue_eq (good_neg hx) hk, Int.natAbs_neg]
    generalize k.testBit (x.natAbs - 1) = b
    by_cases hp : x > 0
    · have h1 : ¬ -x > 0 := by omega
      rw [decide_eq_true hp, decide_eq_false h1]; cases b <;> rfl
    · have h1 : -x > 0 := by omega
      rw [decide_eq_false hp, decide_eq_true h1]; cases b <;> rfl
  refine ⟨?_, ?_⟩
  · rintro x ⟨h1, h2⟩ ⟨h3, h4⟩
    rw [flip x h1, h2] at h4
    cases h4
  · intro x hx
    cases h : goTrue x (k : Int) with
    | true => exact .inl ⟨hx, h⟩
    | false => exact .inr ⟨good_neg hx, by rw [flip x hx, h]; rfl⟩
theorem holds_iff {c : List Int} (hc : NF c) {k : Nat} : gHolds c (k : Int) = true ↔ MSat (MM k) c := by
  unfold gHolds MSat MM
  rw [List.any_eq_true]
  constructor
  · rintro ⟨x, hx, h⟩; exact ⟨x, hx, hc.1 x hx, h⟩
  · rintro ⟨x, hx, _, h⟩; exact ⟨x, hx, h⟩
theorem all_iff {Q : List (List Int)} (hQ : ∀ c ∈ Q, NF c) {k : Nat} : gAll Q (k : Int) = true ↔ ∀ c ∈ Q, MSat (MM k) c := by
  unfold gAll
  rw [List.all_eq_true]
  exact ⟨fun h c hc => (holds_iff (hQ c hc)).1 (h c hc), fun h c hc => (holds_iff (hQ c hc)).2 (h c hc)⟩
theorem table_neg {L : List (List Int)} : ∀ (n k : Nat), (∀ j, k ≤ j → j < k + n → gAll L (j : Int) = false) → gTable L n k = -1
  | 0, _, _ => rfl
  | n + 1, k, h => by
    rw [gTable_succ, if_neg (by rw [h k (by omega) (by omega)]; simp)]
    exact table_neg n (k + 1) (fun j h1 h2 => h j (by omega) (by omega))
theorem table_pos {L : List (List Int)} : ∀ (n k : Nat), (∃ j, k ≤ j ∧ j < k + n ∧ gAll L (j : Int) = true) → 0 ≤ gTable L n k
  | 0, k, h => by obtain ⟨j, h1, h2, _⟩ := h; omega
  | n + 1, k, h => by
    rw [gTable_succ]
    by_cases h0 : gAll L (k : Int) = true
    · rw [if_pos h0]; omega
    · rw [if_neg h0]
      obtain ⟨j, h1, h2, h3⟩ := h
      have : j ≠ k := fun he => by subst he; exact h0 h3
      exact table_pos n (k + 1) ⟨j, by omega, by omega, h3⟩
theorem follows_true {L : List (List Int)} {c : List Int} : ∀ (n k : Nat), (∀ j, k ≤ j → j < k + n → gAll L (j : Int) = true → gHolds c (j : Int) = true) → gFollows L c n k = true
  | 0, _, _ => rfl
  | n + 1, k, h => by
    rw [gFollows_succ, if_neg]
    · exact follows_true n (k + 1) (fun j h1 h2 => h j (by omega) (by omega))
    · intro h0
      simp only [Bool.and_eq_true] at h0
      have := h k (by omega) (by omega) h0.1
      rw [this] at h0
      simp at h0
theorem imp_follows {Q : List (List Int)} {c : List Int} (hQ : ∀ q ∈ Q, NF q) (hc : NF c) (h : Imp Q c) : gFollows Q c 4096 0 = true := by
  refine follows_true 4096 0 fun j _ hj ha => ?_
  exact (holds_iff hc).2 (h _ (MM_asg (by omega)) ((all_iff hQ).1 ha))

theorem accepted_table {Q : List (List Int)} {rows : List (Bool × List Int)} (hQ : ∀ q ∈ Q, NF q) (hr : ∀ r ∈ rows, NF r.2) (h : (gMC 0 Q rows).1 = 0) : gTable Q 4096 0 = -1 := by
  obtain ⟨L, h1, h2⟩ := gMC_ok rows Q 0 h
  have hi := (steps_imp (Q := Q) rows Q L h1 (imp_self hQ) hr [] h2).2
  refine table_neg 4096 0 fun j _ hj => ?_
  rw [Bool.eq_false_iff]
  intro ha
  obtain ⟨x, hx, _⟩ := hi _ (MM_asg (by omega)) ((all_iff hQ).1 ha)
  cases hx

def maskA (t : Tr) : Nat → Nat
  | 0 => 0
  | k + 1 => maskA t k + (if t.value ((k + 1 : Nat) : Int) = 1 then 2 ^ k else 0)
theorem maskA_lt (t : Tr) : ∀ k, maskA t k < 2 ^ k
  | 0 => by simp [maskA]
  | k + 1 => by
    simp only [maskA]
    have := maskA_lt t k
    rw [Nat.pow_succ]
    split <;> omega
theorem maskA_bit (t : Tr) : ∀ (k j : Nat), (maskA t k).testBit j = decide (j < k ∧ t.value ((j + 1 : Nat) : Int) = 1)
  | 0, j => by simp [maskA]
  | k + 1, j => by
    simp only [maskA]
    have hlt := maskA_lt t k
    by_cases hv : t.value ((k + 1 : Nat) : Int) = 1
    · have eo : maskA t k + 2 ^ k = 2 ^ k ||| maskA t k := by
        have := Nat.two_pow_add_eq_or_of_lt hlt 1
        rw [Nat.mul_one] at this
        rw [Nat.add_comm]; exact this
      rw [if_pos hv, eo, Nat.testBit_or, Nat.testBit_two_pow, maskA_bit t k j]
      by_cases hj : k = j
      · subst hj
        have : k < k + 1 ∧ t.value ((k + 1 : Nat) : Int) = 1 := ⟨by omega, hv⟩
        rw [decide_eq_true rfl, decide_eq_true this]; rfl
      · rw [decide_eq_false hj, Bool.false_or]
        refine decide_eq_decide.2 ⟨fun h => ⟨by omega, h.2⟩, fun h => ⟨by omega, h.2⟩⟩
    · rw [if_neg hv, Nat.add_zero, maskA_bit t k j]
      refine decide_eq_decide.2 ⟨fun h => ⟨by omega, h.2⟩, fun h => ⟨?_, h.2⟩⟩
      rcases Nat.lt_or_ge j k with h0 | h0
      · exact h0
      · have : j = k := by omega
        subst this; exact absurd h.2 hv

theorem mask_tr {t : Tr} (g : t.Good) {x : Int} (hx : goGoodLit x = true) (h : t.tr x) : goTrue x (maskA t 12 : Nat) = true := by
  have ha := good_abs hx
  have hl : maskA t 12 < 4096 := maskA_lt t 12
  rw [goTrue_eq hx hl, maskA_bit]
  have e : ((x.natAbs - 1 + 1 : Nat) : Int) = (x.natAbs : Int) := by omega
  rw [e]
  have hv := (val_one g hx).2 h
  by_cases hp : x > 0
  · have e2 : ((x.natAbs : Nat) : Int) = x := by omega
    rw [e2, decide_eq_true (show x.natAbs - 1 < 12 ∧ t.value x = 1 from ⟨by omega, hv⟩), decide_eq_true hp]
    rfl
  · have e2 : ((x.natAbs : Nat) : Int) = -x := by omega
    have hvn : t.value (-x) = -1 := by rw [val_neg hx, hv]
    rw [e2, decide_eq_false (show ¬ (x.natAbs - 1 < 12 ∧ t.value (-x) = 1) from fun h0 => by omega), decide_eq_false hp]
    rfl
theorem full_val {t : Tr} (g : t.Good) (hf : t.es.length = 12) {x : Int} (hx : goGoodLit x = true) : t.tr x ∨ t.tr (-x) := by
  refine Classical.byContradiction fun h0 => ?_
  have ho : t.value x = 0 := (val_0 g hx).2 ⟨fun h => h0 (.inl h), fun h => h0 (.inr h)⟩
  have ha := good_abs hx
  have := g.room (by omega) (value_open hx ho)
  omega
theorem SatEnd.clause {Q : List (List Int)} {σ : St} (h : SatEnd Q σ) {id : Nat} (hst : (σ.w id).st ≠ 0) : ∃ x ∈ (σ.w id).lits, σ.t.tr x := by
  rcases h.sat id hst with ⟨x, hx, ht⟩ | ⟨x, hx, y, hy, _, h1, _⟩
  · exact ⟨x, hx, ht⟩
  · have hg := (h.pi.wg.cl id).good x hx
    exact ⟨x, hx, (full_val h.pi.tg h.full hg).resolve_right h1⟩
theorem SatEnd.all {Q : List (List Int)} {σ : St} (h : SatEnd Q σ) (hQ : Q.length ≤ 40) : gAll Q (maskA σ.t 12 : Nat) = true := by
  unfold gAll
  rw [List.all_eq_true]
  intro q hq
  obtain ⟨i, hi, rfl⟩ := List.mem_iff_getElem.1 hq
  have hp := h.ib.prob i (by omega)
  obtain ⟨x, hx, ht⟩ := h.clause (hp.1.2 hi)
  have hx2 := (hp.2 _ (List.getElem?_eq_getElem hi)).mem_iff.1 hx
  exact List.any_eq_true.2 ⟨x, hx2, mask_tr h.pi.tg ((h.pi.wg.cl i).good x hx) ht⟩
theorem SatEnd.follows {Q : List (List Int)} {σ : St} (h : SatEnd Q σ) (hQn : ∀ q ∈ Q, NF q) : ∀ c ∈ liveL σ.w, gFollows Q c 4096 0 = true := by
  intro c hc
  obtain ⟨rows, L, l1, l2, l3, l4, l5⟩ := h.ib.lg
  have := steps_imp (Q := Q) rows Q L l3 (imp_self hQn) (fun r hr => (l2 r hr).1) c (l4.mem_iff.2 hc)
  exact imp_follows hQn this.1 this.2

theorem run_R {R : List (Bool × List Int)} (hn : ∀ r ∈ R, NF r.2) (hf : ∀ r ∈ R, r.1 = false) (hl : R.length ≤ 40) :
    ((gRun 70000 (gInit (flatOf R))).1 = true ∧ SatEnd (R.map Prod.snd) (gRun 70000 (gInit (flatOf R))).2) ∨ ((gRun 70000 (gInit (flatOf R))).1 = false ∧ RefEnd (R.map Prod.snd) (gRun 70000 (gInit (flatOf R))).2) :=
  run_end (R.map Prod.snd) (by simpa using hl) 70000 _ (init_Inv hn hf hl) (init_mu _)
def gDueA : Nat → Nat → Int → Int
  | 0, r, _ => r
  | n + 1, r, x => if x < goInterval r then r else gDueA n (r + 1) (x - goInterval r)
theorem due_is : ∀ {r s : Nat}, r ≤ 4 → (r < 4 → s ≤ r) → gDueA 4 0 ((ahead r + s : Nat) : Int) = (r : Int)
  | 0, s, _, h => by
    have : s = 0 := by have := h (by omega); omega
    subst this; rfl
  | 1, s, _, h => by
    have := h (by omega)
    have : s = 0 ∨ s = 1 := by omega
    rcases this with rfl | rfl <;> rfl
  | 2, s, _, h => by
    have := h (by omega)
    have : s = 0 ∨ s = 1 ∨ s = 2 := by omega
    rcases this with rfl | rfl | rfl <;> rfl
  | 3, s, _, h => by
    have := h (by omega)
    have : s = 0 ∨ s = 1 ∨ s = 2 ∨ s = 3 := by omega
    rcases this with rfl | rfl | rfl | rfl <;> rfl
  | 4, s, _, h => by
    have e0 : goInterval ((0 : Nat) : Int) = 1 := rfl
    have e1 : goInterval ((0 + 1 : Nat) : Int) = 2 := rfl
    have e2 : goInterval ((0 + 1 + 1 : Nat) : Int) = 3 := rfl
    have e3 : goInterval ((0 + 1 + 1 + 1 : Nat) : Int) = 4 := rfl
    have ea : ahead 4 = 10 := rfl
    simp only [gDueA, e0, e1, e2, e3, ea]
    rw [if_neg (by omega), if_neg (by omega), if_neg (by omega), if_neg (by omega)]
  | n + 5, s, h, _ => by omega
end Go.Proofs.Qxb6500974aGreat
