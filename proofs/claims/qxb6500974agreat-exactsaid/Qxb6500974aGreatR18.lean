import Derived.Test.Qxb6500974aGreatR17
set_option linter.all false
set_option linter.unusedSimpArgs false
set_option linter.unusedVariables false
namespace Go.Proofs.Qxb6500974aGreat
open Go.Eng
variable {W0 : World}

def opn (l : List Int) (T : Int → Bool) : List Int := l.filter fun x => !T (-x)
def addT (T : Int → Bool) (u : Int) : Int → Bool := fun x => T x || decide (x = u)
def rSw (S : Slots) : Nat → Nat → (Int → Bool) → (Int → Bool) × Bool
  | 0, _, T => (T, false)
  | n + 1, s, T => match S s with
    | none => rSw S n (s + 1) T
    | some l => if l.any T = true then rSw S n (s + 1) T else match opn l T with
      | [] => (T, true)
      | [u] => rSw S n (s + 1) (addT T u)
      | _ => rSw S n (s + 1) T
def AsBits (y o : Int) (T : Int → Bool) : Prop := (U16 y ∧ ∀ i, i < 16 → tb y i = T ((i + 1 : Nat) : Int)) ∧ (U16 o ∧ ∀ i, i < 16 → tb o i = T (-((i + 1 : Nat) : Int)))
theorem opn_NF {l : List Int} {T : Int → Bool} (h : NF l) : NF (opn l T) := ⟨fun x hx => h.1 x (List.mem_filter.1 hx).1, h.2.filter _⟩
theorem any_bits {p n y o : Int} {l : List Int} {T : Int → Bool} (hl : NF l) (hr : RowBits p n l) (ha : AsBits y o T) : ((bOr .u16 (bAnd .u16 p y) (bAnd .u16 n o)) != 0) = l.any T := by
  have a1 := u16_and hr.1.1 ha.1.1
  have a2 := u16_and hr.2.1 ha.2.1
  have oo := u16_or a1.1 a2.1
  have key : (bOr .u16 (bAnd .u16 p y) (bAnd .u16 n o)) = 0 ↔ ¬ l.any T = true := by
    rw [zero16 oo.1]
    constructor
    · intro h0 h1
      obtain ⟨x, hx, hT⟩ := List.any_eq_true.1 h1
      obtain ⟨i, hi, he⟩ := good_idx (hl.1 x hx)
      have := h0 i (by omega)
      rw [oo.2, a1.2, a2.2, hr.1.2 i (by omega), hr.2.2 i (by omega), ha.1.2 i (by omega), ha.2.2 i (by omega)] at this
      rcases he with rfl | rfl
      · rw [decide_eq_true hx, hT] at this; simp at this
      · rw [decide_eq_true hx, hT] at this; simp at this
    · intro h1 i hi
      rw [oo.2, a1.2, a2.2, hr.1.2 i hi, hr.2.2 i hi, ha.1.2 i hi, ha.2.2 i hi]
      have h2 : ∀ x ∈ l, T x = false := fun x hx => Bool.eq_false_iff.2 fun h3 => h1 (List.any_eq_true.2 ⟨x, hx, h3⟩)
      by_cases m1 : ((i + 1 : Nat) : Int) ∈ l
      · by_cases m2 : -((i + 1 : Nat) : Int) ∈ l
        · rw [h2 _ m1, h2 _ m2]; simp
        · rw [h2 _ m1, decide_eq_false m2]; simp
      · by_cases m2 : -((i + 1 : Nat) : Int) ∈ l
        · rw [h2 _ m2, decide_eq_false m1]; simp
        · rw [decide_eq_false m1, decide_eq_false m2]; simp
  cases hl2 : l.any T with
  | true => have : ¬ (bOr .u16 (bAnd .u16 p y) (bAnd .u16 n o)) = 0 := fun h0 => key.1 h0 hl2
            simpa using this
  | false => have := key.2 (by rw [hl2]; simp)
             rw [this]; rfl
theorem opn_bits {p n y o : Int} {l : List Int} {T : Int → Bool} (hr : RowBits p n l) (ha : AsBits y o T) (hno : l.any T = false) : RowBits (bAndNot .u16 p (bOr .u16 y o)) (bAndNot .u16 n (bOr .u16 y o)) (opn l T) := by
  have oo := u16_or ha.1.1 ha.2.1
  have a1 := u16_andNot hr.1.1 oo.1
  have a2 := u16_andNot hr.2.1 oo.1
  have h2 : ∀ x ∈ l, T x = false := fun x hx => by
    rw [Bool.eq_false_iff]
    intro h3
    have := List.any_eq_true.2 ⟨x, hx, h3⟩
    rw [hno] at this
    cases this
  refine ⟨⟨a1.1, fun i hi => ?_⟩, ⟨a2.1, fun i hi => ?_⟩⟩
  · rw [a1.2 i hi, oo.2, hr.1.2 i hi, ha.1.2 i hi, ha.2.2 i hi]
    unfold opn
    by_cases m1 : ((i + 1 : Nat) : Int) ∈ l
    · rw [h2 _ m1]
      have : (((i + 1 : Nat) : Int) ∈ l.filter fun x => !T (-x)) ↔ T (-((i + 1 : Nat) : Int)) = false := by
        rw [List.mem_filter]
        constructor
        · intro h0; simpa using h0.2
        · intro h0; exact ⟨m1, by simpa using h0⟩
      rw [decide_eq_decide.2 this, decide_eq_true m1]
      have hb : ∀ b : Bool, (true && !(false || b)) = decide (b = false) := by decide
      exact hb _
    · have : ¬ (((i + 1 : Nat) : Int) ∈ l.filter fun x => !T (-x)) := fun h0 => m1 (List.mem_filter.1 h0).1
      rw [decide_eq_false this, decide_eq_false m1]; rfl
  · rw [a2.2 i hi, oo.2, hr.2.2 i hi, ha.1.2 i hi, ha.2.2 i hi]
    unfold opn
    by_cases m1 : -((i + 1 : Nat) : Int) ∈ l
    · rw [h2 _ m1]
      have : (-((i + 1 : Nat) : Int) ∈ l.filter fun x => !T (-x)) ↔ T ((i + 1 : Nat) : Int) = false := by
        rw [List.mem_filter, Int.neg_neg]
        constructor
        · intro h0; simpa using h0.2
        · intro h0; exact ⟨m1, by simpa using h0⟩
      rw [decide_eq_decide.2 this, decide_eq_true m1]
      have hb : ∀ b : Bool, (true && !(b || false)) = decide (b = false) := by decide
      exact hb _
    · have : ¬ (-((i + 1 : Nat) : Int) ∈ l.filter fun x => !T (-x)) := fun h0 => m1 (List.mem_filter.1 h0).1
      rw [decide_eq_false this, decide_eq_false m1]; rfl
theorem NF.single {u : Int} (h : goGoodLit u = true) : NF [u] := ⟨by simpa using h, by simp⟩
theorem one_pos {p n : Int} {q : List Int} (hq : NF q) (hr : RowBits p n q) (hn : n = 0) : (goOne p = true ↔ ∃ u, q = [u]) ∧ ∀ u ∈ q, 0 < u := by
  have hpos : ∀ u ∈ q, 0 < u := by
    intro u hu
    obtain ⟨i, hi, he⟩ := good_idx (hq.1 u hu)
    rcases he with rfl | rfl
    · omega
    · have := hr.2.2 i (by omega)
      rw [hn, tb_zero, decide_eq_true hu] at this
      cases this
  refine ⟨?_, hpos⟩
  rw [goOne_iff hr.1.1]
  constructor
  · rintro ⟨j, hj, hb, hun⟩
    rw [hr.1.2 j hj] at hb
    have hm := of_decide_eq_true hb
    refine ⟨((j + 1 : Nat) : Int), hq.ext (NF.single (hq.1 _ hm)) fun x hx => ?_⟩
    simp only [List.mem_singleton]
    constructor
    · intro hxq
      obtain ⟨i, hi, he⟩ := good_idx hx
      rcases he with rfl | rfl
      · have := hun i (by omega) (by rw [hr.1.2 i (by omega)]; exact decide_eq_true hxq)
        omega
      · have := hpos _ hxq; omega
    · rintro rfl; exact hm
  · rintro ⟨u, rfl⟩
    obtain ⟨i, hi, he⟩ := good_idx (hq.1 u (by simp))
    have := hpos u (by simp)
    rcases he with rfl | rfl
    · refine ⟨i, by omega, by rw [hr.1.2 i (by omega)]; simp, ?_⟩
      intro j hj hb
      rw [hr.1.2 j hj] at hb
      have := of_decide_eq_true hb
      simp at this; omega
    · omega
theorem one_neg {p n : Int} {q : List Int} (hq : NF q) (hr : RowBits p n q) (hp : p = 0) : (goOne n = true ↔ ∃ u, q = [u]) ∧ ∀ u ∈ q, u < 0 := by
  have hpos : ∀ u ∈ q, u < 0 := by
    intro u hu
    obtain ⟨i, hi, he⟩ := good_idx (hq.1 u hu)
    rcases he with rfl | rfl
    · have := hr.1.2 i (by omega)
      rw [hp, tb_zero, decide_eq_true hu] at this
      cases this
    · omega
  refine ⟨?_, hpos⟩
  rw [goOne_iff hr.2.1]
  constructor
  · rintro ⟨j, hj, hb, hun⟩
    rw [hr.2.2 j hj] at hb
    have hm := of_decide_eq_true hb
    refine ⟨-((j + 1 : Nat) : Int), hq.ext (NF.single (hq.1 _ hm)) fun x hx => ?_⟩
    simp only [List.mem_singleton]
    constructor
    · intro hxq
      obtain ⟨i, hi, he⟩ := good_idx hx
      rcases he with rfl | rfl
      · have := hpos _ hxq; omega
      · have := hun i (by omega) (by rw [hr.2.2 i (by omega)]; exact decide_eq_true hxq)
        omega
    · rintro rfl; exact hm
  · rintro ⟨u, rfl⟩
    obtain ⟨i, hi, he⟩ := good_idx (hq.1 u (by simp))
    have := hpos u (by simp)
    rcases he with rfl | rfl
    · omega
    · refine ⟨i, by omega, by rw [hr.2.2 i (by omega)]; simp, ?_⟩
      intro j hj hb
      rw [hr.2.2 j hj] at hb
      have := of_decide_eq_true hb
      simp at this; omega
theorem AsBits.addP {y o p n : Int} {T : Int → Bool} {u : Int} (h : AsBits y o T) (hr : RowBits p n [u]) (hu : 0 < u) : AsBits (bOr .u16 y p) o (addT T u) := by
  have oo := u16_or h.1.1 hr.1.1
  refine ⟨⟨oo.1, fun i hi => ?_⟩, ⟨h.2.1, fun i hi => ?_⟩⟩
  · rw [oo.2, h.1.2 i hi, hr.1.2 i hi]
    unfold addT
    congr 1
    exact decide_eq_decide.2 List.mem_singleton
  · rw [h.2.2 i hi]
    unfold addT
    have : ¬ (-((i + 1 : Nat) : Int) = u) := by omega
    simp [this]
    intro h0; omega
theorem AsBits.addN {y o p n : Int} {T : Int → Bool} {u : Int} (h : AsBits y o T) (hr : RowBits p n [u]) (hu : u < 0) : AsBits y (bOr .u16 o n) (addT T u) := by
  have oo := u16_or h.2.1 hr.2.1
  refine ⟨⟨h.1.1, fun i hi => ?_⟩, ⟨oo.1, fun i hi => ?_⟩⟩
  · rw [h.1.2 i hi]
    unfold addT
    have : ¬ (((i + 1 : Nat) : Int) = u) := by omega
    simp [this]
    intro h0; omega
  · rw [oo.2, h.2.2 i hi, hr.2.2 i hi]
    unfold addT
    congr 1
    exact decide_eq_decide.2 List.mem_singleton
theorem sweep_spec {k p : Nat} {S : Slots} {y o : Int} {T : Int → Bool} {K : Value → Mem → Prop} {m : Mem} (h : ChAt m k p S) (hT : AsBits y o T)
    (hK : ∀ y' o', AsBits y' o' (rSw S 64 0 T).1 → K (.tuple #[.int .u16 y', .int .u16 o', .bool (rSw S 64 0 T).2]) m) : callOK Tryz.prog W0 146 [ptr k 0, .int .u16 y, .int .u16 o] K m := by
  refine call146 ?_
  obtain ⟨c, h1, h2, h3⟩ := h
  unfold s146
  obtain ⟨r, hr⟩ : ∃ r, rSw S 64 0 T = r := ⟨_, rfl⟩
  rw [hr] at hK
  refine loop146_1 (γ := Nat × (Int → Bool)) (fun g y o t6 t7 t8 s m' => m' = m ∧ s = g.1 ∧ g.1 ≤ 64 ∧ AsBits y o g.2 ∧ rSw S (64 - g.1) g.1 g.2 = r) (fun g _ _ _ _ _ _ => 64 - g.1) (0, T) ⟨rfl, rfl, by dsimp only; omega, hT, hr⟩ ?_
  rintro ⟨i, T1⟩ y o t6 t7 t8 s m' ⟨rfl, rfl, hi, ha, hj⟩
  dsimp only at hi ha hj ⊢
  unfold s146_1
  refine ifB_lt (fun hlt => ?_) (fun hlt => ?_)
  · have hi64 : i < 64 := by omega
    have ef : 64 - i = (64 - (i + 1)) + 1 := by omega
    rw [ef] at hj
    simp only [rSw] at hj
    refine ⟨_, h1.used, ?_⟩
    dsimp only
    rw [hasb64' h3.used.1 hi64, h3.used.2 i hi64]
    have hrow := h3.row i hi64
    cases hS : S i with
    | none =>
      rw [hS] at hj
      dsimp only at hj
      with_reducible refine ifB_of (fun _ => ?_) (fun h0 => by simp at h0)
      exact ⟨(i + 1, T1), _, _, _, _, _, _, rfl, ⟨rfl, wrapS i (by omega), by dsimp only; omega, ha, hj⟩, by dsimp only; omega⟩
    | some l =>
      rw [hS] at hj hrow
      dsimp only at hj
      have hl := h3.nf i l hS
      have hrow : RowBits (c.pos i) (c.neg i) l := hrow
      with_reducible refine ifB_of (fun h0 => by simp at h0) (fun _ => ?_)
      refine ⟨by omega, by omega, ?_⟩
      simp only [Int.toNat_natCast]
      refine ⟨_, h1.pos hi64, ?_⟩
      refine ⟨by omega, by omega, ?_⟩
      simp only [Int.toNat_natCast]
      refine ⟨_, h1.neg hi64, ?_⟩
      dsimp only
      rw [any_bits hl hrow ha]
      refine ifB_of (fun hany => ?_) (fun hany => ?_)
      · rw [if_pos hany] at hj
        exact ⟨(i + 1, T1), _, _, _, _, _, _, rfl, ⟨rfl, wrapS i (by omega), by dsimp only; omega, ha, hj⟩, by dsimp only; omega⟩
      · rw [if_neg (by rw [hany]; simp)] at hj
        have ob := opn_bits hrow ha hany
        have hq := opn_NF (T := T1) hl
        generalize opn l T1 = q at hj ob hq
        generalize bAndNot .u16 (c.pos i) (bOr .u16 y o) = op at ob ⊢
        generalize bAndNot .u16 (c.neg i) (bOr .u16 y o) = on at ob ⊢
        have hemp := ob.empty hq
        have skip : ¬ (∃ u, q = [u]) → q ≠ [] → rSw S (64 - (i + 1)) (i + 1) T1 = r := by
          intro g1 g2
          match q, g1, g2, hj with
          | [], _, g2, _ => exact absurd rfl g2
          | [a], g1, _, _ => exact absurd ⟨a, rfl⟩ g1
          | a :: b :: bs, _, _, hj => exact hj
        refine ifB_eq (fun e0 => ?_) (fun e0 => ?_)
        · rw [hemp.1 e0] at hj
          dsimp only at hj
          subst hj
          rw [e146_1r]
          exact hK y o ha
        · have hne : q ≠ [] := fun h0 => e0 (hemp.2 h0)
          refine ifB_eq (fun eon => ?_) (fun eon => ?_)
          · have hop := one_pos hq ob eon
            refine ifB_of (fun ho => ?_) (fun ho => ?_)
            · obtain ⟨u, hu⟩ := hop.1.1 ho
              subst hu
              dsimp only at hj
              exact ⟨(i + 1, addT T1 u), _, _, _, _, _, _, rfl, ⟨rfl, wrapS i (by omega), by dsimp only; omega, ha.addP ob (hop.2 u (by simp)), hj⟩, by dsimp only; omega⟩
            · exact ⟨(i + 1, T1), _, _, _, _, _, _, rfl, ⟨rfl, wrapS i (by omega), by dsimp only; omega, ha, skip (fun h0 => by rw [hop.1.2 h0] at ho; cases ho) hne⟩, by dsimp only; omega⟩
          · refine ifB_eq (fun eop => ?_) (fun eop => ?_)
            · have hop := one_neg hq ob eop
              refine ifB_of (fun ho => ?_) (fun ho => ?_)
              · obtain ⟨u, hu⟩ := hop.1.1 ho
                subst hu
                dsimp only at hj
                exact ⟨(i + 1, addT T1 u), _, _, _, _, _, _, rfl, ⟨rfl, wrapS i (by omega), by dsimp only; omega, ha.addN ob (hop.2 u (by simp)), hj⟩, by dsimp only; omega⟩
              · exact ⟨(i + 1, T1), _, _, _, _, _, _, rfl, ⟨rfl, wrapS i (by omega), by dsimp only; omega, ha, skip (fun h0 => by rw [hop.1.2 h0] at ho; cases ho) hne⟩, by dsimp only; omega⟩
            · refine ⟨(i + 1, T1), _, _, _, _, _, _, rfl, ⟨rfl, wrapS i (by omega), by dsimp only; omega, ha, skip ?_ hne⟩, by dsimp only; omega⟩
              rintro ⟨u, rfl⟩
              obtain ⟨j, hj2, he⟩ := good_idx (hq.1 u (by simp))
              rcases he with rfl | rfl
              · apply eon
                refine (zero16 ob.2.1).2 fun i' hi' => ?_
                rw [ob.2.2 i' hi']
                simp
                omega
              · apply eop
                refine (zero16 ob.1.1).2 fun i' hi' => ?_
                rw [ob.1.2 i' hi']
                simp
                omega
  · have : i = 64 := by omega
    subst this
    simp only [Nat.sub_self, rSw] at hj
    subst hj
    rw [e146_1x0]
    exact hK y o ha

structure TOK (T : Int → Bool) : Prop where
  good : ∀ x, T x = true → goGoodLit x = true
  cons : ∀ x, T x = true → T (-x) = false
def cntT (T : Int → Bool) : Nat := cntB (fun i => T ((i + 1 : Nat) : Int) || T (-((i + 1 : Nat) : Int))) 12
theorem cntB_mono {f g : Nat → Bool} (h : ∀ i, f i = true → g i = true) : ∀ n, cntB f n ≤ cntB g n
  | 0 => Nat.le_refl _
  | n + 1 => by
    simp only [cntB]
    have := cntB_mono h n
    by_cases hf : f n = true
    · rw [if_pos hf, if_pos (h n hf)]; omega
    · rw [if_neg hf]; split <;> omega
theorem cntB_lt {f g : Nat → Bool} (h : ∀ i, f i = true → g i = true) {j : Nat} (hf : f j = false) (hg : g j = true) : ∀ n, j < n → cntB f n < cntB g n
  | 0, hj => by omega
  | n + 1, hj => by
    simp only [cntB]
    by_cases he : j = n
    · subst he
      rw [hf, hg]
      have := cntB_mono h j
      simp; omega
    · have := cntB_lt h hf hg n (by omega)
      by_cases hf2 : f n = true
      · rw [if_pos hf2, if_pos (h n hf2)]; omega
      · rw [if_neg hf2]; split <;> omega
theorem opn_mem {l : List Int} {T : Int → Bool} {x : Int} : x ∈ opn l T ↔ x ∈ l ∧ T (-x) = false := by
  unfold opn; rw [List.mem_filter]; simp
theorem rSw_is (S : Slots) (cs : List (List Int)) (D : Int → Prop) (hcs : ∀ s l, s < 64 → S s = some l → l ∈ cs) (hnf : ∀ s l, S s = some l → NF l) : ∀ (n s : Nat) (T : Int → Bool), s + n = 64 → TOK T → (∀ X, Clo cs D X → ∀ x, T x = true → X x) →
    TOK (rSw S n s T).1 ∧ (∀ x, T x = true → (rSw S n s T).1 x = true) ∧ (∀ X, Clo cs D X → ∀ x, (rSw S n s T).1 x = true → X x) ∧ ((rSw S n s T).2 = true → Ref cs D) ∧
    ((rSw S n s T).2 = false → (∃ x, (rSw S n s T).1 x = true ∧ T x = false) ∨ ((rSw S n s T).1 = T ∧ ∀ i l, s ≤ i → i < 64 → S i = some l → ClC l fun x => T x = true))
  | 0, s, T, hs, hT, hf => by
    simp only [rSw]
    exact ⟨hT, fun _ h => h, hf, by simp, fun _ => .inr (by simpa using fun i l h1 h2 => by omega)⟩
  | n + 1, s, T, hs, hT, hf => by
    simp only [rSw]
    have rec_ := fun T' h1 h2 => rSw_is S cs D hcs hnf n (s + 1) T' (by omega) h1 h2
    have skip : ∀ l, S s = some l → ClC l (fun x => T x = true) →
        TOK (rSw S n (s + 1) T).1 ∧ (∀ x, T x = true → (rSw S n (s + 1) T).1 x = true) ∧ (∀ X, Clo cs D X → ∀ x, (rSw S n (s + 1) T).1 x = true → X x) ∧ ((rSw S n (s + 1) T).2 = true → Ref cs D) ∧
        ((rSw S n (s + 1) T).2 = false → (∃ x, (rSw S n (s + 1) T).1 x = true ∧ T x = false) ∨ ((rSw S n (s + 1) T).1 = T ∧ ∀ i l, s ≤ i → i < 64 → S i = some l → ClC l fun x => T x = true)) := by
      intro l hl hc
      obtain ⟨r1, r2, r3, r4, r5⟩ := rec_ T hT hf
      refine ⟨r1, r2, r3, r4, fun hb => (r5 hb).orMap id ?_⟩
      rintro ⟨e, h⟩
      refine ⟨e, fun i l' h1 h2 h3 => ?_⟩
      by_cases he : i = s
      · subst he; rw [hl] at h3; cases h3; exact hc
      · exact h i l' (by omega) h2 h3
    cases hS : S s with
    | none =>
      dsimp only
      obtain ⟨r1, r2, r3, r4, r5⟩ := rec_ T hT hf
      refine ⟨r1, r2, r3, r4, fun hb => (r5 hb).orMap id ?_⟩
      rintro ⟨e, h⟩
      refine ⟨e, fun i l' h1 h2 h3 => ?_⟩
      by_cases he : i = s
      · subst he; rw [hS] at h3; cases h3
      · exact h i l' (by omega) h2 h3
    | some l =>
      dsimp only
      have hl := hnf s l hS
      have hlc := hcs s l (by omega) hS
      by_cases hany : l.any T = true
      · rw [if_pos hany]
        obtain ⟨x, hx, hx2⟩ := List.any_eq_true.1 hany
        exact skip l hS (.inl ⟨x, hx, hx2⟩)
      · rw [if_neg hany]
        have hno : ∀ x ∈ l, T x = false := fun x hx => Bool.eq_false_iff.2 fun h3 => hany (List.any_eq_true.2 ⟨x, hx, h3⟩)
        have hmem := fun x => opn_mem (l := l) (T := T) (x := x)
        have hq := opn_NF (T := T) hl
        generalize opn l T = q at hmem hq ⊢
        match q with
        | [] =>
          dsimp only
          refine ⟨hT, fun _ h => h, hf, fun _ => ?_, by simp⟩
          rintro ⟨X, hX⟩
          refine hX.not_false hlc fun x hx => hf X hX _ ?_
          cases hTx : T (-x) with
          | true => rfl
          | false => have := (hmem x).2 ⟨hx, hTx⟩; simp at this
        | [u] =>
          dsimp only
          have hu := (hmem u).1 (by simp)
          have hgu := hl.1 u hu.1
          have hot : ∀ x ∈ l, x ≠ u → T (-x) = true := by
            intro x hx hne
            cases hTx : T (-x) with
            | true => rfl
            | false => have := (hmem x).2 ⟨hx, hTx⟩; simp at this; exact absurd this hne
          have hT' : TOK (addT T u) := by
            refine ⟨?_, ?_⟩
            · intro x hx
              unfold addT at hx
              simp only [Bool.or_eq_true, decide_eq_true_eq] at hx
              rcases hx with hx | rfl
              · exact hT.good x hx
              · exact hgu
            · intro x hx
              unfold addT at hx ⊢
              simp only [Bool.or_eq_true, decide_eq_true_eq] at hx
              simp only [Bool.or_eq_false_iff, decide_eq_false_iff_not]
              rcases hx with hx | rfl
              · refine ⟨hT.cons x hx, ?_⟩
                intro h0
                have : T (-u) = true := by rw [← h0, Int.neg_neg]; exact hx
                rw [hu.2] at this; cases this
              · exact ⟨hu.2, by have := good_abs hgu; omega⟩
          have hf' : ∀ X, Clo cs D X → ∀ x, addT T u x = true → X x := by
            intro X hX x hx
            unfold addT at hx
            simp only [Bool.or_eq_true, decide_eq_true_eq] at hx
            rcases hx with hx | rfl
            · exact hf X hX x hx
            · exact hX.unit hlc (fun y hy hne => hf X hX _ (hot y hy hne)) hu.1
          obtain ⟨r1, r2, r3, r4, r5⟩ := rec_ (addT T u) hT' hf'
          have hin : ∀ x, T x = true → addT T u x = true := fun x hx => by simp [addT, hx]
          refine ⟨r1, fun x hx => r2 x (hin x hx), r3, r4, fun _ => .inl ⟨u, r2 u (by simp [addT]), hno u hu.1⟩⟩
        | a :: b :: rest =>
          dsimp only
          have h1 := (hmem a).1 (by simp)
          have h2 := (hmem b).1 (by simp)
          refine skip l hS (.inr ⟨a, h1.1, b, h2.1, ?_, fun h0 => Bool.noConfusion (h1.2.symm.trans h0), fun h0 => Bool.noConfusion (h2.2.symm.trans h0)⟩)
          have := hq.2
          rw [List.pairwise_cons] at this
          have := this.1 b (by simp)
          intro h0; subst h0; omega
theorem crup_spec {k p : Nat} {S : Slots} {l : List Int} {L : List (List Int)} {pb nb : Int} {K : Value → Mem → Prop} {m : Mem} (h : ChAt m k p S) (hb : RowBits pb nb l) (hl : NF l) (hL : ∀ x, x ∈ L ↔ ∃ s, s < 64 ∧ S s = some x)
    (hK : K (.bool (gRup L l)) m) : callOK Tryz.prog W0 122 [ptr k 0, .int .u16 pb, .int .u16 nb] K m := by
  refine call122 ?_
  have hnf : ∀ s l, S s = some l → NF l := by obtain ⟨c, h1, h2, h3⟩ := h; exact h3.nf
  have hLn : ∀ c ∈ L, NF c := fun c hc => by obtain ⟨s, _, hs⟩ := (hL c).1 hc; exact hnf s c hs
  have hgr := gRup_iff hLn hl
  have hcs : ∀ s l, s < 64 → S s = some l → l ∈ L := fun s l hs h0 => (hL l).2 ⟨s, hs, h0⟩
  unfold s122
  have hT0 : TOK fun x => decide (-x ∈ l) := by
    refine ⟨fun x hx => ?_, fun x hx => ?_⟩
    · have := hl.1 _ (of_decide_eq_true hx)
      have h2 := good_neg this
      rwa [Int.neg_neg] at h2
    · have h1 := of_decide_eq_true hx
      refine decide_eq_false fun h2 => ?_
      rw [Int.neg_neg] at h2
      have hne : x ≠ -x := by have := good_abs (hl.1 _ h2); omega
      have hd := sorted_vars hl.2
      have : ∀ a ∈ l, ∀ b ∈ l, a ≠ b → a.natAbs ≠ b.natAbs := by
        intro a ha b hb hab
        rw [List.pairwise_iff_getElem] at hd
        obtain ⟨i, hi, rfl⟩ := List.mem_iff_getElem.1 ha
        obtain ⟨j, hj, rfl⟩ := List.mem_iff_getElem.1 hb
        rcases Nat.lt_trichotomy i j with h | h | h
        · exact hd i j hi hj h
        · subst h; exact absurd rfl hab
        · exact fun h0 => hd j i hj hi h h0.symm
      exact this x h2 (-x) h1 hne (by omega)
  refine loop122_1 (γ := Nat × (Int → Bool)) (fun g t6 y o rd m' => m' = m ∧ rd = g.1 ∧ g.1 ≤ 13 ∧ AsBits y o g.2 ∧ TOK g.2 ∧ (∀ X, Clo L (fun x => -x ∈ l) X → ∀ x, g.2 x = true → X x) ∧ (∀ x, -x ∈ l → g.2 x = true) ∧ g.1 ≤ cntT g.2) (fun g _ _ _ _ => 13 - g.1) (0, fun x => decide (-x ∈ l))
    ⟨rfl, rfl, by dsimp only; omega, ?_, hT0, ?_, fun x hx => decide_eq_true hx, by dsimp only; omega⟩ ?_
  · refine ⟨⟨hb.2.1, fun i hi => hb.2.2 i hi⟩, ⟨hb.1.1, fun i hi => ?_⟩⟩
    dsimp only
    rw [Int.neg_neg]; exact hb.1.2 i hi
  · intro X hX x hx
    exact hX.inc x (of_decide_eq_true hx)
  rintro ⟨i, T⟩ t6 y o rd m' ⟨rfl, rfl, hi, ha, hT, hf, hd, hcnt⟩
  dsimp only at hi ha hT hf hd hcnt ⊢
  have hc12 : cntT T ≤ 12 := cntB_le _ 12
  unfold s122_1
  refine ifB_le (fun hle => ?_) (fun hle => ?_)
  · obtain ⟨r1, r2, r3, r4, r5⟩ := rSw_is S L (fun x => -x ∈ l) hcs hnf 64 0 T (by omega) hT hf
    refine sweep_spec h ha ?_
    intro y' o' ha'
    refine ⟨_, _, _, rfl, ?_⟩
    generalize rSw S 64 0 T = q at r1 r2 r3 r4 r5 ha' ⊢
    obtain ⟨T', hit⟩ := q
    dsimp only at r1 r2 r3 r4 r5 ha' ⊢
    refine ifB_of (fun hh => ?_) (fun hh => ?_)
    · rw [e122_1r]
      rw [hgr.2 (r4 hh)] at hK
      exact hK
    · have grow : (y' ≠ y ∨ o' ≠ o) → ∃ x, T' x = true ∧ T x = false := by
        intro hne
        rcases r5 hh with h0 | ⟨h0, _⟩
        · exact h0
        · subst h0
          exfalso
          have e1 : y' = y := u16_ext ha'.1.1 ha.1.1 fun i hi => by rw [ha'.1.2 i hi, ha.1.2 i hi]
          have e2 : o' = o := u16_ext ha'.2.1 ha.2.1 fun i hi => by rw [ha'.2.2 i hi, ha.2.2 i hi]
          rcases hne with h9 | h9
          · exact h9 e1
          · exact h9 e2
      have next : (y' ≠ y ∨ o' ≠ o) → i + 1 ≤ cntT T' := by
        intro hne
        obtain ⟨x, hx1, hx2⟩ := grow hne
        obtain ⟨j, hj, he⟩ := good_idx (r1.good x hx1)
        have hxn : T (-x) = false := by
          rw [Bool.eq_false_iff]
          intro h0
          have := r1.cons x hx1
          rw [r2 _ h0] at this
          cases this
        have : cntT T < cntT T' := by
          refine cntB_lt (j := j) ?_ ?_ ?_ 12 hj
          · intro i' hi'
            simp only [Bool.or_eq_true] at hi' ⊢
            exact hi'.orMap (r2 _) (r2 _)
          · rcases he with rfl | rfl
            · rw [hx2, hxn]; rfl
            · rw [Int.neg_neg] at hxn
              rw [hx2, hxn]; rfl
          · rcases he with rfl | rfl
            · rw [hx1]; rfl
            · rw [hx1, Bool.or_true]
        omega
      have stay : y' = y → o' = o → Clo L (fun x => -x ∈ l) (fun x => T x = true) := by
        intro e1 e2
        have hT' : T' = T := by
          rcases r5 hh with ⟨x, hx1, hx2⟩ | ⟨h0, _⟩
          · exfalso
            obtain ⟨j, hj, he⟩ := good_idx (r1.good x hx1)
            rcases he with rfl | rfl
            · have a1 := ha'.1.2 j (by omega)
              rw [e1, ha.1.2 j (by omega), hx1, hx2] at a1
              cases a1
            · have a1 := ha'.2.2 j (by omega)
              rw [e2, ha.2.2 j (by omega), hx1, hx2] at a1
              cases a1
          · exact h0
        rcases r5 hh with ⟨x, hx1, hx2⟩ | ⟨_, hcl⟩
        · rw [hT', hx2] at hx1; cases hx1
        · refine ⟨fun x hx hnx => ?_, hd, ?_⟩
          · rw [hT.cons x hx] at hnx; cases hnx
          · intro c hc
            obtain ⟨s, hs, hSs⟩ := (hL c).1 hc
            exact hcl s c (by omega) hs hSs
      refine ifB_eq (fun e1 => ?_) (fun e1 => ?_)
      · refine ifB_eq (fun e2 => ?_) (fun e2 => ?_)
        · rw [e122_1r]
          have : gRup L l = false := by
            rw [Bool.eq_false_iff]
            intro h0
            exact (hgr.1 h0) ⟨_, stay e1 e2⟩
          rw [this] at hK
          exact hK
        · exact ⟨(i + 1, T'), _, _, _, _, rfl, ⟨rfl, wrapS i (by omega), by dsimp only; omega, ha', r1, r3, fun x hx => r2 x (hd x hx), next (.inr e2)⟩, by dsimp only; omega⟩
      · exact ⟨(i + 1, T'), _, _, _, _, rfl, ⟨rfl, wrapS i (by omega), by dsimp only; omega, ha', r1, r3, fun x hx => r2 x (hd x hx), next (.inl e1)⟩, by dsimp only; omega⟩
  · have hF : False := by omega
    cases hF
end Go.Proofs.Qxb6500974aGreat
