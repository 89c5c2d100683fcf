import Derived.Test.Qxb6500974aGreatR4
set_option linter.all false
set_option linter.unusedSimpArgs false
set_option linter.unusedVariables false
namespace Go.Proofs.Qxb6500974aGreat
open Go.Eng
variable {W0 : World}

theorem set64 {x : Int} (h : U64 x) {j : Nat} (hj : j < 64) : U64 (bOr .u64 x ((2 ^ j : Nat) : Int)) ∧ ∀ i, tb (bOr .u64 x ((2 ^ j : Nat) : Int)) i = if i = j then true else tb x i := by
  have o := u64_or h (u64_pow hj)
  refine ⟨o.1, fun i => ?_⟩
  rw [o.2, tb_pow]
  by_cases hi : i = j <;> simp [hi]
theorem clr64 {x : Int} (h : U64 x) {j : Nat} (hj : j < 64) : U64 (bAndNot .u64 x ((2 ^ j : Nat) : Int)) ∧ ∀ i, i < 64 → tb (bAndNot .u64 x ((2 ^ j : Nat) : Int)) i = if i = j then false else tb x i := by
  have o := u64_andNot h (u64_pow hj)
  refine ⟨o.1, fun i hi => ?_⟩
  rw [o.2 i hi, tb_pow]
  by_cases hij : i = j <;> simp [hij]
theorem code_range {l : Int} (h : goGoodLit l = true) : 0 ≤ goCode l ∧ goCode l < 26 := by
  have := good_abs h
  have hb := this.2.2.2.1
  unfold LitB at hb
  simp only [goGoodLit, decide_eq_true_eq] at h
  unfold goCode
  split
  · rw [wrap_i64 (by omega) (by omega)]; omega
  · rw [wrap_i64 (n := 2 * l) (by omega) (by omega), wrap_i64 (by omega) (by omega)]; omega
theorem code_inj {l k : Int} (hl : goGoodLit l = true) (hk : goGoodLit k = true) (h : goCode l = goCode k) : l = k := by
  simp only [goGoodLit, decide_eq_true_eq] at hl hk
  unfold goCode at h
  split at h <;> split at h
  · rw [wrap_i64 (by omega) (by omega), wrap_i64 (by omega) (by omega)] at h; omega
  · rw [wrap_i64 (by omega) (by omega), wrap_i64 (n := 2 * k) (by omega) (by omega), wrap_i64 (by omega) (by omega)] at h; omega
  · rw [wrap_i64 (n := 2 * l) (by omega) (by omega), wrap_i64 (n := 1 - 2 * l) (by omega) (by omega), wrap_i64 (by omega) (by omega)] at h; omega
  · rw [wrap_i64 (n := 2 * l) (by omega) (by omega), wrap_i64 (n := 1 - 2 * l) (by omega) (by omega), wrap_i64 (n := 2 * k) (by omega) (by omega), wrap_i64 (by omega) (by omega)] at h; omega
theorem base_wrap {id : Nat} (h : id < 52) : IntKind.wrap .i64 ((id : Int) * 12) = ((id * 12 : Nat) : Int) := by rw [wrap_i64 (by omega) (by omega)]; omega
theorem base_wrap1 {id : Nat} (h : id < 52) : IntKind.wrap .i64 (((id * 12 : Nat) : Int) + 1) = ((id * 12 + 1 : Nat) : Int) := by rw [wrap_i64 (by omega) (by omega)]; omega
theorem link_raw {b id : Nat} {c : WaC} {x0 x1 : Int} {K : Value → Mem → Prop} {m : Mem} (h1 : WaB m b c) (hid : id < 52) (hx0 : c.lits (id * 12) = x0) (hx1 : c.lits (id * 12 + 1) = x1) (g0 : goGoodLit x0 = true) (g1 : goGoodLit x1 = true) (hu : ∀ k, k < 26 → U64 (c.list k))
    (hK : ∀ m' L, m'.Ok → Kp [b] m m' → WaB m' b { c with list := L } → (∀ k, k < 26 → U64 (L k) ∧ ∀ i, i < 64 → tb (L k) i = if i = id then (tb (c.list k) id || decide (goCode x0 = k) || decide (goCode x1 = k)) else tb (c.list k) i) → K (.tuple #[]) m') :
    callOK Tryz.prog W0 135 [ptr b 0, .int .i64 id] K m := by
  refine callOK_ok fun ok => call135 ?_
  have r0 := code_range g0
  have r1 := code_range g1
  unfold s135
  rw [base_wrap hid, base_wrap1 hid, goBit_eq (by omega)]
  refine ⟨by omega, by omega, ?_⟩
  simp only [Int.toNat_natCast]
  refine ⟨_, h1.lits (by omega), ?_⟩
  rw [hx0]
  refine ⟨r0.1, r0.2, ?_⟩
  refine ⟨_, h1.list (by omega), ?_⟩
  refine ⟨r0.1, r0.2, ?_⟩
  refine h1.st_list ok (by omega) ?_
  intro m1 ok1 kp1 b1
  refine ⟨by omega, by omega, ?_⟩
  refine ⟨_, b1.lits (by omega), ?_⟩
  dsimp only
  rw [Int.toNat_natCast, hx1]
  refine ⟨r1.1, r1.2, ?_⟩
  refine ⟨_, b1.list (by omega), ?_⟩
  refine ⟨r1.1, r1.2, ?_⟩
  refine b1.st_list ok1 (by omega) ?_
  intro m2 ok2 kp2 b2
  refine hK m2 _ ok2 (kp1.trans kp2) b2 ?_
  intro k hk
  have s1 : ∀ k, k < 26 → U64 (fupd c.list (goCode x0).toNat (bOr .u64 (c.list (goCode x0).toNat) ((2 ^ id : Nat) : Int)) k) ∧ ∀ i, i < 64 → tb (fupd c.list (goCode x0).toNat (bOr .u64 (c.list (goCode x0).toNat) ((2 ^ id : Nat) : Int)) k) i = if i = id then (tb (c.list k) id || decide (goCode x0 = k)) else tb (c.list k) i := by
    intro k hk
    by_cases he : k = (goCode x0).toNat
    · subst he
      rw [fupd_at]
      have o := set64 (hu (goCode x0).toNat (by omega)) (j := id) (by omega)
      refine ⟨o.1, fun i hi => ?_⟩
      rw [o.2]
      have : goCode x0 = (((goCode x0).toNat : Nat) : Int) := by omega
      by_cases hi2 : i = id
      · simp [hi2, ← this]
      · simp [hi2]
    · rw [fupd_ne _ _ he]
      refine ⟨hu k hk, fun i hi => ?_⟩
      have : ¬ (goCode x0 = (k : Int)) := by omega
      by_cases hi2 : i = id
      · simp [hi2, this]
      · simp [hi2]
  dsimp only
  by_cases he : k = (goCode x1).toNat
  · subst he
    rw [fupd_at]
    have q := s1 (goCode x1).toNat (by omega)
    have o := set64 q.1 (j := id) (by omega)
    refine ⟨o.1, fun i hi => ?_⟩
    rw [o.2]
    have : goCode x1 = (((goCode x1).toNat : Nat) : Int) := by omega
    by_cases hi2 : i = id
    · simp [hi2, ← this]
    · rw [if_neg hi2, q.2 i hi]
      simp [hi2]
  · rw [fupd_ne _ _ he]
    have q := s1 k hk
    refine ⟨q.1, fun i hi => ?_⟩
    have : ¬ (goCode x1 = (k : Int)) := by omega
    rw [q.2 i hi]
    by_cases hi2 : i = id
    · simp [hi2, this]
    · simp [hi2]
theorem unlink_raw {b id : Nat} {c : WaC} {x0 x1 : Int} {K : Value → Mem → Prop} {m : Mem} (h1 : WaB m b c) (hid : id < 52) (hx0 : c.lits (id * 12) = x0) (hx1 : c.lits (id * 12 + 1) = x1) (g0 : goGoodLit x0 = true) (g1 : goGoodLit x1 = true) (hu : ∀ k, k < 26 → U64 (c.list k))
    (hK : ∀ m' L, m'.Ok → Kp [b] m m' → WaB m' b { c with list := L } → (∀ k, k < 26 → U64 (L k) ∧ ∀ i, i < 64 → tb (L k) i = if i = id then (tb (c.list k) id && !decide (goCode x0 = k) && !decide (goCode x1 = k)) else tb (c.list k) i) → K (.tuple #[]) m') :
    callOK Tryz.prog W0 145 [ptr b 0, .int .i64 id] K m := by
  refine callOK_ok fun ok => call145 ?_
  have r0 := code_range g0
  have r1 := code_range g1
  unfold s145
  rw [base_wrap hid, base_wrap1 hid, goBit_eq (by omega)]
  refine ⟨by omega, by omega, ?_⟩
  simp only [Int.toNat_natCast]
  refine ⟨_, h1.lits (by omega), ?_⟩
  rw [hx0]
  refine ⟨r0.1, r0.2, ?_⟩
  refine ⟨_, h1.list (by omega), ?_⟩
  refine ⟨r0.1, r0.2, ?_⟩
  refine h1.st_list ok (by omega) ?_
  intro m1 ok1 kp1 b1
  refine ⟨by omega, by omega, ?_⟩
  refine ⟨_, b1.lits (by omega), ?_⟩
  dsimp only
  rw [Int.toNat_natCast, hx1]
  refine ⟨r1.1, r1.2, ?_⟩
  refine ⟨_, b1.list (by omega), ?_⟩
  refine ⟨r1.1, r1.2, ?_⟩
  refine b1.st_list ok1 (by omega) ?_
  intro m2 ok2 kp2 b2
  refine hK m2 _ ok2 (kp1.trans kp2) b2 ?_
  intro k hk
  have s1 : ∀ k, k < 26 → U64 (fupd c.list (goCode x0).toNat (bAndNot .u64 (c.list (goCode x0).toNat) ((2 ^ id : Nat) : Int)) k) ∧ ∀ i, i < 64 → tb (fupd c.list (goCode x0).toNat (bAndNot .u64 (c.list (goCode x0).toNat) ((2 ^ id : Nat) : Int)) k) i = if i = id then (tb (c.list k) id && !decide (goCode x0 = k)) else tb (c.list k) i := by
    intro k hk
    by_cases he : k = (goCode x0).toNat
    · subst he
      rw [fupd_at]
      have o := clr64 (hu (goCode x0).toNat (by omega)) (j := id) (by omega)
      refine ⟨o.1, fun i hi => ?_⟩
      rw [o.2 i hi]
      have : goCode x0 = (((goCode x0).toNat : Nat) : Int) := by omega
      by_cases hi2 : i = id
      · simp [hi2, ← this]
      · simp [hi2]
    · rw [fupd_ne _ _ he]
      refine ⟨hu k hk, fun i hi => ?_⟩
      have : ¬ (goCode x0 = (k : Int)) := by omega
      by_cases hi2 : i = id
      · simp [hi2, this]
      · simp [hi2]
  dsimp only
  by_cases he : k = (goCode x1).toNat
  · subst he
    rw [fupd_at]
    have q := s1 (goCode x1).toNat (by omega)
    have o := clr64 q.1 (j := id) (by omega)
    refine ⟨o.1, fun i hi => ?_⟩
    rw [o.2 i hi]
    have : goCode x1 = (((goCode x1).toNat : Nat) : Int) := by omega
    by_cases hi2 : i = id
    · simp [hi2, ← this]
    · rw [if_neg hi2, q.2 i hi]
      simp [hi2]
  · rw [fupd_ne _ _ he]
    have q := s1 k hk
    refine ⟨q.1, fun i hi => ?_⟩
    have : ¬ (goCode x1 = (k : Int)) := by omega
    rw [q.2 i hi]
    by_cases hi2 : i = id
    · simp [hi2, this]
    · simp [hi2]

theorem WRep.turn {c c' : WaC} {w : Wt} {id : Nat} {cl : Cl} (g : WGood w) (h : WRep c w) (hid : id < 52)
    (used : U64 c'.used ∧ ∀ i, i < 64 → tb c'.used i = if i = id then decide (cl.st ≠ 0) else tb c.used i)
    (fresh : U64 c'.fresh ∧ ∀ i, i < 64 → tb c'.fresh i = if i = id then decide (cl.st = 1) else tb c.fresh i)
    (weak : U64 c'.weak ∧ ∀ i, i < 64 → tb c'.weak i = if i = id then decide (cl.st = 2) else tb c.weak i)
    (size : ∀ i, i < 52 → c'.size i = if i = id then ((cl.lits.length : Nat) : Int) else c.size i)
    (lits : ∀ i x, cl.lits[i]? = some x → c'.lits (id * 12 + i) = x) (lits' : ∀ j, (j < id * 12 ∨ id * 12 + 12 ≤ j) → c'.lits j = c.lits j)
    (list : ∀ k, k < 26 → U64 (c'.list k) ∧ ∀ i, i < 64 → tb (c'.list k) i = if i = id then watches cl k else tb (c.list k) i) : WRep c' (fupd w id cl) := by
  have hent : ∀ i, fupd w id cl i = if i = id then cl else w i := fun i => rfl
  refine ⟨⟨used.1, fun i hi => ?_⟩, ⟨fresh.1, fun i hi => ?_⟩, ⟨weak.1, fun i hi => ?_⟩, fun i hi => ?_, fun i hi j x hx => ?_, fun k hk => ⟨(list k hk).1, fun i hi => ?_⟩⟩
  · rw [used.2 i hi, hent]; by_cases he : i = id
    · simp [he]
    · simp [he, h.used.2 i hi]
  · rw [fresh.2 i hi, hent]; by_cases he : i = id
    · simp [he]
    · simp [he, h.fresh.2 i hi]
  · rw [weak.2 i hi, hent]; by_cases he : i = id
    · simp [he]
    · simp [he, h.weak.2 i hi]
  · rw [size i hi, hent]; by_cases he : i = id
    · simp [he]
    · simp [he, h.size i hi]
  · rw [hent] at hx
    by_cases he : i = id
    · subst he; rw [if_pos rfl] at hx; exact lits j x hx
    · rw [if_neg he] at hx
      have hjl : j < (w i).lits.length := by
        rcases Nat.lt_or_ge j (w i).lits.length with h | h
        · exact h
        · rw [List.getElem?_eq_none h] at hx; cases hx
      have := (g.cl i).len
      rw [lits' _ (by omega)]
      exact h.lits i hi j x hx
  · rw [(list k hk).2 i hi, hent]; by_cases he : i = id
    · simp [he]
    · simp [he, (h.list k hk).2 i hi]
theorem WGood.turn {w : Wt} {id : Nat} {cl : Cl} (g : WGood w) (hid : id < 52) (h : ClGood cl) : WGood (fupd w id cl) := by
  refine ⟨fun i => ?_, fun i hi => ?_⟩
  · unfold fupd
    split
    · exact h
    · exact g.cl i
  · rw [fupd_ne _ _ (by omega)]; exact g.out i hi
end Go.Proofs.Qxb6500974aGreat
