import Derived.Test.Qxb6500974aGreatR16
import Derived.Test.Qxb6500974aGreatP1
set_option linter.all false
set_option linter.unusedSimpArgs false
set_option linter.unusedVariables false
namespace Go.Proofs.Qxb6500974aGreat
open Go.Eng
variable {W0 : World}

theorem hasb64 {x : Int} (h : U64 x) {v : Nat} (hv : v < 64) : ((bAnd .u64 x (goSlotBit (v : Int))) != 0) = tb x v := by
  rw [goSlotBit_eq hv]
  have oa := u64_and h (u64_pow hv)
  by_cases ht : tb x v = true
  · rw [ht]
    have : bAnd .u64 x ((2 ^ v : Nat) : Int) ≠ 0 := by
      intro h0
      have := oa.2 v
      rw [h0, tb_zero, tb_pow, ht] at this
      simp at this
    simpa using this
  · have ht' := Bool.eq_false_iff.2 ht
    rw [ht']
    have : bAnd .u64 x ((2 ^ v : Nat) : Int) = 0 := by
      refine u64_ext oa.1 ⟨by omega, by omega⟩ fun i hi => ?_
      rw [oa.2, tb_zero, tb_pow]
      by_cases he : i = v
      · subst he; simp [ht']
      · simp [he]
    rw [this]; rfl
theorem hasb64' {x : Int} (h : U64 x) {v : Nat} (hv : v < 64) : ((bAnd .u64 x (goSlotBit (v : Int))) == 0) = !tb x v := by
  have := hasb64 h hv
  rw [← this]
  simp [bne]
theorem u64_not {x : Int} (hx : U64 x) : U64 (bXor .u64 (IntKind.max .u64) x) ∧ ∀ i, i < 64 → tb (bXor .u64 (IntKind.max .u64) x) i = !tb x i := by
  refine ⟨(bv64 _).1, fun i hi => ?_⟩
  have e : bXor .u64 (IntKind.max .u64) x = IntKind.wrap .u64 (((BitVec.ofInt 64 (IntKind.max .u64) ^^^ BitVec.ofInt 64 x).toNat : Nat) : Int) := rfl
  rw [e]
  unfold tb
  rw [(bv64 _).2, BitVec.testBit_toNat, BitVec.getLsbD_xor, tb_of64 hx i]
  have hm : BitVec.ofInt 64 (IntKind.max .u64) = BitVec.allOnes 64 := by decide
  rw [hm, BitVec.getLsbD_allOnes]
  simp [hi, tb]
theorem zero16 {x : Int} (h : U16 x) : x = 0 ↔ ∀ i, i < 16 → tb x i = false := by
  constructor
  · rintro rfl i _; exact tb_zero i
  · intro h0
    exact u16_ext h u16_0 fun i hi => by rw [h0 i hi, tb_zero]

theorem one_nat : ∀ (n : Nat), n ≠ 0 → n &&& (n - 1) = 0 → ∃ j, n = 2 ^ j := by
  intro n
  induction n using Nat.strongRecOn with
  | ind n ih =>
    intro h0 h1
    by_cases hp : n % 2 = 0
    · have hk : ∀ i, (n / 2 &&& (n / 2 - 1)).testBit i = false := by
        intro i
        have : Nat.testBit (n &&& (n - 1)) (i + 1) = Nat.testBit 0 (i + 1) := by rw [h1]
        rw [Nat.testBit_and, Nat.zero_testBit, Nat.testBit_succ, Nat.testBit_succ] at this
        rw [Nat.testBit_and]
        have e : (n - 1) / 2 = n / 2 - 1 := by omega
        rw [e] at this
        exact this
      have hz : n / 2 &&& (n / 2 - 1) = 0 := Nat.eq_of_testBit_eq (by intro i; rw [hk i, Nat.zero_testBit])
      obtain ⟨j, hj⟩ := ih (n / 2) (by omega) (by omega) hz
      exact ⟨j + 1, by rw [Nat.pow_succ]; omega⟩
    · refine ⟨0, ?_⟩
      have hk : ∀ i, (n / 2).testBit i = false := by
        intro i
        have : Nat.testBit (n &&& (n - 1)) (i + 1) = Nat.testBit 0 (i + 1) := by rw [h1]
        rw [Nat.testBit_and, Nat.zero_testBit, Nat.testBit_succ, Nat.testBit_succ] at this
        have e : (n - 1) / 2 = n / 2 := by omega
        rw [e, Bool.and_self] at this
        exact this
      have hz : n / 2 = 0 := Nat.eq_of_testBit_eq (by intro i; rw [hk i, Nat.zero_testBit])
      simp; omega
theorem nat_one (j : Nat) : 2 ^ j ≠ 0 ∧ 2 ^ j &&& (2 ^ j - 1) = 0 := by
  have : 0 < 2 ^ j := Nat.two_pow_pos j
  refine ⟨by omega, ?_⟩
  apply Nat.eq_of_testBit_eq
  intro i
  rw [Nat.testBit_and, Nat.testBit_two_pow_sub_one, Nat.testBit_two_pow, Nat.zero_testBit]
  by_cases h : j = i
  · subst h; simp
  · simp [h]
theorem goOne_iff {x : Int} (h : U16 x) : goOne x = true ↔ ∃ j, j < 16 ∧ tb x j = true ∧ ∀ i, i < 16 → tb x i = true → i = j := by
  have hx : x = ((x.toNat : Nat) : Int) := by have := h.1; omega
  have key : x ≠ 0 → ((bAnd .u16 x (IntKind.wrap .u16 (x - 1))) = 0 ↔ x.toNat &&& (x.toNat - 1) = 0) := by
    intro h0
    have hw : IntKind.wrap .u16 (x - 1) = x - 1 := by
      have := h.1; have := h.2
      simp only [IntKind.wrap, IntKind.signed, IntKind.bits]
      simp
      omega
    rw [hw]
    have hu : U16 (x - 1) := ⟨by have := h.1; omega, by have := h.2; omega⟩
    have oa := u16_and h hu
    have e1 : (x - 1).toNat = x.toNat - 1 := by omega
    constructor
    · intro hz
      apply Nat.eq_of_testBit_eq
      intro i
      have := oa.2 i
      rw [hz, tb_zero] at this
      unfold tb at this
      rw [e1] at this
      rw [Nat.testBit_and, Nat.zero_testBit]
      exact this.symm
    · intro hz
      refine (zero16 oa.1).2 fun i _ => ?_
      rw [oa.2 i]
      unfold tb
      rw [e1, ← Nat.testBit_and, hz, Nat.zero_testBit]
  constructor
  · intro ho
    unfold goOne at ho
    simp only [Bool.and_eq_true, decide_eq_true_eq, beq_iff_eq] at ho
    have hz := (key ho.1).1 ho.2
    obtain ⟨j, hj⟩ := one_nat x.toNat (by have := h.1; have := ho.1; omega) hz
    have tbj : ∀ i, tb x i = decide (j = i) := by
      intro i
      unfold tb
      rw [hj, Nat.testBit_two_pow]
    refine ⟨j, ?_, by rw [tbj]; simp, fun i _ hi => by rw [tbj] at hi; exact (of_decide_eq_true hi).symm⟩
    have h2 := h.2
    by_cases hlt : j < 16
    · exact hlt
    · have : 2 ^ 16 ≤ 2 ^ j := Nat.pow_le_pow_right (by omega) (by omega)
      omega
  · rintro ⟨j, hj, hb, hun⟩
    have hx2 : x = ((2 ^ j : Nat) : Int) := by
      refine u16_ext h (u16_pow hj) fun i hi => ?_
      rw [tb_pow]
      by_cases he : i = j
      · subst he; simp [hb]
      · have : tb x i = false := by
          rw [Bool.eq_false_iff]
          intro h0
          exact he (hun i hi h0)
        simp [this, he]
    have h0 : x ≠ 0 := by
      intro h0
      rw [h0, tb_zero] at hb
      cases hb
    have := (key h0).2 (by
      have e : x.toNat = 2 ^ j := by rw [hx2]; exact Int.toNat_natCast _
      rw [e]
      exact (nat_one j).2)
    unfold goOne
    simp [h0, this]

def RowBits (p n : Int) (l : List Int) : Prop := (U16 p ∧ ∀ i, i < 16 → tb p i = decide (((i + 1 : Nat) : Int) ∈ l)) ∧ (U16 n ∧ ∀ i, i < 16 → tb n i = decide (-((i + 1 : Nat) : Int) ∈ l))
theorem RowBits.nil : RowBits 0 0 [] := ⟨⟨u16_0, fun i _ => by rw [tb_zero]; simp⟩, ⟨u16_0, fun i _ => by rw [tb_zero]; simp⟩⟩
theorem good_idx {x : Int} (h : goGoodLit x = true) : ∃ i, i < 12 ∧ (x = ((i + 1 : Nat) : Int) ∨ x = -((i + 1 : Nat) : Int)) := by
  have := good_abs h
  exact ⟨x.natAbs - 1, by omega, by omega⟩
theorem NF.ext {a b : List Int} (ha : NF a) (hb : NF b) (h : ∀ x, goGoodLit x = true → (x ∈ a ↔ x ∈ b)) : a = b := by
  refine ha.eq_of_perm hb ?_
  rw [List.perm_ext_iff_of_nodup (vars_nodup (sorted_vars ha.2)) (vars_nodup (sorted_vars hb.2))]
  intro x
  constructor
  · intro hx; exact (h x (ha.1 x hx)).1 hx
  · intro hx; exact (h x (hb.1 x hx)).2 hx
theorem RowBits.ext {p n p' n' : Int} {l l' : List Int} (h : RowBits p n l) (h' : RowBits p' n' l') (hl : NF l) (hl' : NF l') : (p = p' ∧ n = n') ↔ l = l' := by
  constructor
  · rintro ⟨rfl, rfl⟩
    refine hl.ext hl' fun x hx => ?_
    obtain ⟨i, hi, he⟩ := good_idx hx
    have a1 := h.1.2 i (by omega)
    have a2 := h.2.2 i (by omega)
    rw [h'.1.2 i (by omega)] at a1
    rw [h'.2.2 i (by omega)] at a2
    rcases he with rfl | rfl
    · have := decide_eq_decide.1 a1; exact this.symm
    · have := decide_eq_decide.1 a2; exact this.symm
  · rintro rfl
    exact ⟨u16_ext h.1.1 h'.1.1 fun i hi => by rw [h.1.2 i hi, h'.1.2 i hi], u16_ext h.2.1 h'.2.1 fun i hi => by rw [h.2.2 i hi, h'.2.2 i hi]⟩
theorem RowBits.empty {p n : Int} {l : List Int} (h : RowBits p n l) (hl : NF l) : bOr .u16 p n = 0 ↔ l = [] := by
  have oo := u16_or h.1.1 h.2.1
  rw [zero16 oo.1]
  constructor
  · intro h0
    cases l with
    | nil => rfl
    | cons x xs =>
      obtain ⟨i, hi, he⟩ := good_idx (hl.1 x (by simp))
      have := h0 i (by omega)
      rw [oo.2, h.1.2 i (by omega), h.2.2 i (by omega)] at this
      rcases he with rfl | rfl
      · simp at this
      · simp at this
  · rintro rfl i hi
    rw [oo.2, h.1.2 i hi, h.2.2 i hi]
    simp

abbrev Slots := Nat → Option (List Int)
structure ChRep (c : ChC) (S : Slots) : Prop where
  used : U64 c.used ∧ ∀ s, s < 64 → tb c.used s = (S s).isSome
  row : ∀ s, s < 64 → RowBits (c.pos s) (c.neg s) ((S s).getD [])
  nf : ∀ s l, S s = some l → NF l
  emp : c.empties = (cntB (fun s => decide (S s = some [])) 64 : Nat)
structure ChI (m : Mem) (k p : Nat) (S : Slots) (c : ChC) : Prop where
  so : ChB m k c
  hp : c.p = p
  rep : ChRep c S
def ChAt (m : Mem) (k p : Nat) (S : Slots) : Prop := ∃ c, ChI m k p S c
theorem ChAt.keep {X : List Nat} {m m' : Mem} {k p : Nat} {S : Slots} (h : ChAt m k p S) (hk : Kp X m m') (hb : k ∉ X) : ChAt m' k p S := by
  obtain ⟨c, h1, h2, h3⟩ := h
  exact ⟨c, h1.keep hk hb, h2, h3⟩
theorem ChAt.lt {m : Mem} {k p : Nat} {S : Slots} (ok : m.Ok) (h : ChAt m k p S) : k < m.top := by
  obtain ⟨c, h1, h2, h3⟩ := h
  exact h1.lt ok
theorem cntB_congr {f g : Nat → Bool} : ∀ (n : Nat), (∀ i, i < n → f i = g i) → cntB f n = cntB g n
  | 0, _ => rfl
  | n + 1, h => by simp only [cntB]; rw [cntB_congr n (fun i hi => h i (by omega)), h n (by omega)]
theorem cntB_set {f g : Nat → Bool} {j : Nat} (hf : f j = false) (hg : g j = true) (ho : ∀ i, i ≠ j → f i = g i) : ∀ (n : Nat), j < n → cntB g n = cntB f n + 1
  | 0, h => by omega
  | n + 1, h => by
    simp only [cntB]
    by_cases he : j = n
    · subst he
      rw [hf, hg, cntB_congr (f := g) (g := f) j (fun i hi => (ho i (by omega)).symm)]
      simp
    · rw [cntB_set hf hg ho n (by omega), ho n (fun h0 => he h0.symm)]
      omega
def emptyS : Slots := fun _ => none
theorem cwipe_spec {k p : Nat} {S : Slots} {K : Value → Mem → Prop} {m : Mem} (h : ChAt m k p S) (hK : ∀ m', m'.Ok → Kp [k] m m' → ChAt m' k p emptyS → K (.tuple #[]) m') : callOK Tryz.prog W0 38 [ptr k 0] K m := by
  refine callOK_ok fun ok => call38 ?_
  obtain ⟨c, h1, h2, h3⟩ := h
  unfold s38
  refine loop38_1 (γ := Nat × ChC) (fun g s m' => s = g.1 ∧ g.1 ≤ 64 ∧ m'.Ok ∧ Kp [k] m m' ∧ ChB m' k g.2 ∧ g.2.p = p ∧ g.2.used = c.used ∧ (∀ s, g.1 ≤ s → g.2.pos s = c.pos s ∧ g.2.neg s = c.neg s) ∧ ∀ s, s < g.1 → s < 64 → g.2.pos s = 0 ∧ g.2.neg s = 0) (fun g _ => 64 - g.1) (0, c)
    ⟨rfl, by dsimp only; omega, ok, Kp.refl _ _, h1, h2, rfl, fun _ _ => ⟨rfl, rfl⟩, by intro s hs; dsimp only at hs; omega⟩ ?_
  rintro ⟨i, c1⟩ s m1 ⟨rfl, hi, ok1, kp1, b1, e1, e2, e3, e4⟩
  dsimp only at hi b1 e1 e2 e3 e4 ⊢
  unfold s38_1
  refine ifB_lt (fun hlt => ?_) (fun hlt => ?_)
  · have hi64 : i < 64 := by omega
    refine ⟨_, b1.used, ?_⟩
    dsimp only
    rw [e2, hasb64 h3.used.1 hi64, h3.used.2 i hi64]
    refine ifB_of (fun hs => ?_) (fun hs => ?_)
    · refine ⟨by omega, by omega, ?_⟩
      simp only [Int.toNat_natCast]
      refine b1.st_pos ok1 hi64 ?_
      intro m2 ok2 kp2 b2
      refine ⟨by omega, by omega, ?_⟩
      simp only [Int.toNat_natCast]
      refine b2.st_neg ok2 hi64 ?_
      intro m3 ok3 kp3 b3
      refine ⟨(i + 1, _), _, rfl, ⟨wrapS i (by omega), by dsimp only; omega, ok3, (kp1.trans kp2).trans kp3, b3, e1, e2, ?_, ?_⟩, by dsimp only; omega⟩
      · intro s hs
        dsimp only at hs ⊢
        rw [fupd_ne _ _ (by omega), fupd_ne _ _ (by omega)]; exact e3 s (by omega)
      · intro s hs hs2
        dsimp only at hs ⊢
        by_cases he : s = i
        · subst he; rw [fupd_at, fupd_at]; exact ⟨rfl, rfl⟩
        · rw [fupd_ne _ _ he, fupd_ne _ _ he]; exact e4 s (by omega) hs2
    · refine ⟨(i + 1, c1), _, rfl, ⟨wrapS i (by omega), by dsimp only; omega, ok1, kp1, b1, e1, e2, fun s hs => e3 s (by dsimp only at hs; omega), ?_⟩, by dsimp only; omega⟩
      intro s hs3 hs2
      dsimp only at hs3 ⊢
      by_cases he : s = i
      · subst he
        have hr := h3.row s hs2
        have hn : S s = none := by
          cases hS : S s with
          | none => rfl
          | some l => rw [hS] at hs; cases hs
        rw [hn] at hr
        have := (hr.ext RowBits.nil ⟨by simp, by simp⟩ ⟨by simp, by simp⟩).2 rfl
        rw [(e3 s (by omega)).1, (e3 s (by omega)).2]
        exact this
      · exact e4 s (by omega) hs2
  · rw [e38_1x0]
    have : i = 64 := by omega
    subst this
    unfold s38_1x0
    refine b1.st_used ok1 ?_
    intro m2 ok2 kp2 b2
    refine b2.st_empties ok2 ?_
    intro m3 ok3 kp3 b3
    refine hK m3 ok3 ((kp1.trans kp2).trans kp3) ⟨_, b3, e1, ⟨⟨by dsimp only; omega, by dsimp only; omega⟩, fun s _ => by rw [tb_zero]; rfl⟩, ?_, by intro s l h; simp [emptyS] at h, ?_⟩
    · intro s hs
      have := e4 s (by omega) hs
      dsimp only
      rw [this.1, this.2]
      exact RowBits.nil
    · dsimp only
      have : ∀ n, cntB (fun s => decide (emptyS s = some [])) n = 0 := by
        intro n
        induction n with
        | zero => rfl
        | succ n ih => simp only [cntB, ih]; simp [emptyS]
      rw [this]; rfl

def firstB (f : Nat → Bool) : Nat → Nat → Int
  | 0, _ => -1
  | n + 1, s => if f s = true then (s : Int) else firstB f n (s + 1)
theorem firstB_is (f : Nat → Bool) : ∀ (n s : Nat), (firstB f n s = -1 ∧ ∀ i, s ≤ i → i < s + n → f i = false) ∨ ∃ i : Nat, firstB f n s = i ∧ s ≤ i ∧ i < s + n ∧ f i = true
  | 0, s => .inl ⟨rfl, fun i h1 h2 => by omega⟩
  | n + 1, s => by
    simp only [firstB]
    by_cases h : f s = true
    · rw [if_pos h]; exact .inr ⟨s, rfl, by omega, by omega, h⟩
    · rw [if_neg h]
      rcases firstB_is f n (s + 1) with ⟨h1, h2⟩ | ⟨i, h1, h2, h3, h4⟩
      · refine .inl ⟨h1, fun i hi1 hi2 => ?_⟩
        by_cases he : i = s
        · subst he; exact Bool.eq_false_iff.2 h
        · exact h2 i (by omega) (by omega)
      · exact .inr ⟨i, h1, by omega, by omega, h4⟩
theorem lowest_spec {x : Int} {K : Value → Mem → Prop} {m : Mem} (hx : U64 x) (hK : K (.int .i64 (firstB (tb x) 64 0)) m) : callOK Tryz.prog W0 119 [.int .u64 x] K m := by
  refine call119 ?_
  unfold s119
  obtain ⟨r, hr⟩ : ∃ r, firstB (tb x) 64 0 = r := ⟨_, rfl⟩
  rw [hr] at hK
  refine loop119_1 (γ := Nat) (fun k t2 s m' => m' = m ∧ s = k ∧ k ≤ 64 ∧ firstB (tb x) (64 - k) k = r) (fun k _ _ => 64 - k) 0 ⟨rfl, rfl, by omega, hr⟩ ?_
  rintro k t2 s m' ⟨rfl, rfl, hk, hj⟩
  unfold s119_1
  refine ifB_lt (fun hlt => ?_) (fun hlt => ?_)
  · have hk64 : k < 64 := by omega
    have ef : 64 - k = (64 - (k + 1)) + 1 := by omega
    rw [ef] at hj
    simp only [firstB] at hj
    rw [hasb64 hx hk64]
    refine ifB_of (fun hs => ?_) (fun hs => ?_)
    · rw [if_pos hs] at hj
      rw [e119_1r, hj]; exact hK
    · rw [if_neg (by rw [hs]; simp)] at hj
      exact ⟨k + 1, _, _, rfl, ⟨rfl, wrapS k (by omega), by omega, hj⟩, by omega⟩
  · have : k = 64 := by omega
    subst this
    simp only [Nat.sub_self, firstB] at hj
    subst hj
    rw [e119_1x0]; exact hK
theorem cput_spec {k p : Nat} {S : Slots} {l : List Int} {pb nb : Int} {K : Value → Mem → Prop} {m : Mem} (h : ChAt m k p S) (hb : RowBits pb nb l) (hl : NF l) (hfree : ∃ s, s < 64 ∧ S s = none)
    (hK : ∀ s m', s < 64 → S s = none → m'.Ok → Kp [k] m m' → ChAt m' k p (fupd S s (some l)) → K (.tuple #[]) m') : callOK Tryz.prog W0 70 [ptr k 0, .int .u16 pb, .int .u16 nb] K m := by
  refine callOK_ok fun ok => call70 ?_
  obtain ⟨c, h1, h2, h3⟩ := h
  unfold s70
  refine ⟨_, h1.used, ?_⟩
  have un := u64_not h3.used.1
  refine lowest_spec un.1 ⟨_, rfl, ?_⟩
  obtain ⟨s, hs, hs64, hsn⟩ : ∃ s : Nat, firstB (tb (bXor .u64 (IntKind.max .u64) c.used)) 64 0 = s ∧ s < 64 ∧ S s = none := by
    rcases firstB_is (tb (bXor .u64 (IntKind.max .u64) c.used)) 64 0 with ⟨_, h0⟩ | ⟨i, e, _, hi, ht⟩
    · obtain ⟨s, hs, hn⟩ := hfree
      have := h0 s (by omega) (by omega)
      rw [un.2 s hs, h3.used.2 s hs, hn] at this
      cases this
    · refine ⟨i, e, by omega, ?_⟩
      rw [un.2 i (by omega), h3.used.2 i (by omega)] at ht
      cases hS : S i with
      | none => rfl
      | some l => rw [hS] at ht; cases ht
  rw [hs]
  refine ⟨by omega, by omega, ?_⟩
  simp only [Int.toNat_natCast]
  refine h1.st_pos ok hs64 ?_
  intro m2 ok2 kp2 b2
  refine ⟨by omega, by omega, ?_⟩
  simp only [Int.toNat_natCast]
  refine b2.st_neg ok2 hs64 ?_
  intro m3 ok3 kp3 b3
  refine ⟨_, b3.used, ?_⟩
  dsimp only
  rw [goSlotBit_eq hs64]
  refine b3.st_used ok3 ?_
  intro m4 ok4 kp4 b4
  have kk := (kp2.trans kp3).trans kp4
  have su := set64 h3.used.1 (j := s) hs64
  have used' : U64 (bOr .u64 c.used ((2 ^ s : Nat) : Int)) ∧ ∀ s', s' < 64 → tb (bOr .u64 c.used ((2 ^ s : Nat) : Int)) s' = (fupd S s (some l) s').isSome := by
    refine ⟨su.1, fun s' hs' => ?_⟩
    rw [su.2]
    by_cases he : s' = s
    · subst he; rw [if_pos rfl, fupd_at]; rfl
    · rw [if_neg he, fupd_ne _ _ he]; exact h3.used.2 s' hs'
  have row' : ∀ s', s' < 64 → RowBits (fupd c.pos s pb s') (fupd c.neg s nb s') ((fupd S s (some l) s').getD []) := by
    intro s' hs'
    by_cases he : s' = s
    · subst he; rw [fupd_at, fupd_at, fupd_at]; exact hb
    · rw [fupd_ne _ _ he, fupd_ne _ _ he, fupd_ne _ _ he]; exact h3.row s' hs'
  have nf' : ∀ s' l', fupd S s (some l) s' = some l' → NF l' := by
    intro s' l' hs'
    by_cases he : s' = s
    · subst he; rw [fupd_at] at hs'; cases hs'; exact hl
    · rw [fupd_ne _ _ he] at hs'; exact h3.nf s' l' hs'
  have hcl := cntB_le (fun s => decide (S s = some [])) 64
  refine ifB_eq (fun he => ?_) (fun he => ?_)
  · have hle := (hb.empty hl).1 he
    refine ⟨_, b4.empties, ?_⟩
    refine b4.st_empties ok4 ?_
    intro m5 ok5 kp5 b5
    refine hK s m5 hs64 hsn ok5 (kk.trans kp5) ⟨_, b5, h2, ⟨used', row', nf', ?_⟩⟩
    dsimp only
    rw [h3.emp]
    have : cntB (fun s' => decide (fupd S s (some l) s' = some [])) 64 = cntB (fun s => decide (S s = some [])) 64 + 1 := by
      refine cntB_set (j := s) (by simp [hsn]) ?_ ?_ 64 hs64
      · rw [fupd_at, hle]; simp
      · intro i hi; rw [fupd_ne _ _ hi]
    rw [this, wrap_i64 (by omega) (by omega)]; omega
  · have hle : l ≠ [] := fun h0 => he ((hb.empty hl).2 h0)
    refine hK s m4 hs64 hsn ok4 kk ⟨_, b4, h2, ⟨used', row', nf', ?_⟩⟩
    dsimp only
    rw [h3.emp]
    congr 1
    refine cntB_congr 64 fun i _ => ?_
    by_cases hi : i = s
    · subst hi; rw [fupd_at, hsn]; simp [hle]
    · rw [fupd_ne _ _ hi]
theorem seek_spec {k p : Nat} {S : Slots} {l : List Int} {pb nb : Int} {K : Value → Mem → Prop} {m : Mem} (h : ChAt m k p S) (hb : RowBits pb nb l) (hl : NF l) (hK : K (.int .i64 (firstB (fun s => decide (S s = some l)) 64 0)) m) : callOK Tryz.prog W0 120 [ptr k 0, .int .u16 pb, .int .u16 nb] K m := by
  refine call120 ?_
  obtain ⟨c, h1, h2, h3⟩ := h
  unfold s120
  obtain ⟨r, hr⟩ : ∃ r, firstB (fun s => decide (S s = some l)) 64 0 = r := ⟨_, rfl⟩
  rw [hr] at hK
  refine loop120_1 (γ := Nat) (fun k t2 s m' => m' = m ∧ s = k ∧ k ≤ 64 ∧ firstB (fun s => decide (S s = some l)) (64 - k) k = r) (fun k _ _ => 64 - k) 0 ⟨rfl, rfl, by omega, hr⟩ ?_
  rintro i t2 s m' ⟨rfl, rfl, hi, hj⟩
  unfold s120_1
  refine ifB_lt (fun hlt => ?_) (fun hlt => ?_)
  · have hi64 : i < 64 := by omega
    have ef : 64 - i = (64 - (i + 1)) + 1 := by omega
    rw [ef] at hj
    simp only [firstB, decide_eq_true_eq] at hj
    refine ⟨_, h1.used, ?_⟩
    dsimp only
    rw [hasb64 h3.used.1 hi64, h3.used.2 i hi64]
    have hrow := h3.row i hi64
    have nx : S i ≠ some l → firstB (fun s => decide (S s = some l)) (64 - (i + 1)) (i + 1) = r := fun h0 => by rw [if_neg h0] at hj; exact hj
    refine ifB_of (fun hs => ?_) (fun hs => ?_)
    · obtain ⟨l', hl'⟩ : ∃ l', S i = some l' := by
        cases hS : S i with
        | none => rw [hS] at hs; cases hs
        | some l' => exact ⟨l', rfl⟩
      rw [hl'] at hrow nx hj
      have hx := hrow.ext hb (h3.nf i l' hl') hl
      refine ⟨by omega, by omega, ?_⟩
      simp only [Int.toNat_natCast]
      refine ⟨_, h1.pos hi64, ?_⟩
      refine ifB_eq (fun e1 => ?_) (fun e1 => ?_)
      · refine ⟨by omega, by omega, ?_⟩
        simp only [Int.toNat_natCast]
        refine ⟨_, h1.neg hi64, ?_⟩
        refine ifB_eq (fun e2 => ?_) (fun e2 => ?_)
        · rw [if_pos (by rw [← hx.1 ⟨e1, e2⟩]; rfl)] at hj
          rw [e120_1r, hj]; exact hK
        · exact ⟨i + 1, _, _, rfl, ⟨rfl, wrapS i (by omega), by omega, nx (fun h0 => e2 (hx.2 (by simpa using h0)).2)⟩, by omega⟩
      · exact ⟨i + 1, _, _, rfl, ⟨rfl, wrapS i (by omega), by omega, nx (fun h0 => e1 (hx.2 (by simpa using h0)).1)⟩, by omega⟩
    · exact ⟨i + 1, _, _, rfl, ⟨rfl, wrapS i (by omega), by omega, nx (fun h0 => by rw [h0] at hs; cases hs)⟩, by omega⟩
  · have : i = 64 := by omega
    subst this
    simp only [Nat.sub_self, firstB] at hj
    subst hj
    rw [e120_1x0]; exact hK
theorem cdrop_spec {k p : Nat} {S : Slots} {l : List Int} {s : Nat} {K : Value → Mem → Prop} {m : Mem} (h : ChAt m k p S) (hs : s < 64) (hSs : S s = some l)
    (hK : ∀ m', m'.Ok → Kp [k] m m' → ChAt m' k p (fupd S s none) → K (.tuple #[]) m') : callOK Tryz.prog W0 121 [ptr k 0, .int .i64 s] K m := by
  refine callOK_ok fun ok => call121 ?_
  obtain ⟨c, h1, h2, h3⟩ := h
  unfold s121
  have hl := h3.nf s l hSs
  have hrow := h3.row s hs
  rw [hSs] at hrow
  have hemp := hrow.empty hl
  refine ⟨by omega, by omega, ?_⟩
  simp only [Int.toNat_natCast]
  refine ⟨_, h1.pos hs, ?_⟩
  refine ⟨by omega, by omega, ?_⟩
  simp only [Int.toNat_natCast]
  refine ⟨_, h1.neg hs, ?_⟩
  dsimp only
  have cu := clr64 h3.used.1 (j := s) hs
  have used' : U64 (bAndNot .u64 c.used ((2 ^ s : Nat) : Int)) ∧ ∀ s', s' < 64 → tb (bAndNot .u64 c.used ((2 ^ s : Nat) : Int)) s' = (fupd S s none s').isSome := by
    refine ⟨cu.1, fun s' hs' => ?_⟩
    rw [cu.2 s' hs']
    by_cases he : s' = s
    · subst he; rw [if_pos rfl, fupd_at]; rfl
    · rw [if_neg he, fupd_ne _ _ he]; exact h3.used.2 s' hs'
  have row' : ∀ s', s' < 64 → RowBits (fupd c.pos s 0 s') (fupd c.neg s 0 s') ((fupd S s none s').getD []) := by
    intro s' hs'
    by_cases he : s' = s
    · subst he; rw [fupd_at, fupd_at, fupd_at]; exact RowBits.nil
    · rw [fupd_ne _ _ he, fupd_ne _ _ he, fupd_ne _ _ he]; exact h3.row s' hs'
  have nf' : ∀ s' l', fupd S s none s' = some l' → NF l' := by
    intro s' l' hs'
    by_cases he : s' = s
    · subst he; rw [fupd_at] at hs'; cases hs'
    · rw [fupd_ne _ _ he] at hs'; exact h3.nf s' l' hs'
  have hcl := cntB_le (fun s => decide (S s = some [])) 64
  refine ifB_eq (fun he => ?_) (fun he => ?_)
  · have hle := hemp.1 he
    refine ⟨_, h1.empties, ?_⟩
    refine h1.st_empties ok ?_
    intro m1 ok1 kp1 b1
    refine ⟨by omega, by omega, ?_⟩
    simp only [Int.toNat_natCast]
    refine b1.st_pos ok1 hs ?_
    intro m2 ok2 kp2 b2
    refine ⟨by omega, by omega, ?_⟩
    simp only [Int.toNat_natCast]
    refine b2.st_neg ok2 hs ?_
    intro m3 ok3 kp3 b3
    refine ⟨_, b3.used, ?_⟩
    dsimp only
    rw [goSlotBit_eq hs]
    refine b3.st_used ok3 ?_
    intro m4 ok4 kp4 b4
    refine hK m4 ok4 (((kp1.trans kp2).trans kp3).trans kp4) ⟨_, b4, h2, ⟨used', row', nf', ?_⟩⟩
    dsimp only
    rw [h3.emp]
    have : cntB (fun s => decide (S s = some [])) 64 = cntB (fun s' => decide (fupd S s none s' = some [])) 64 + 1 := by
      refine cntB_set (j := s) (by simp [fupd_at]) (by have h9 : l = [] := hle; simp [hSs, h9]) ?_ 64 hs
      intro i hi; rw [fupd_ne _ _ hi]
    rw [wrap_i64 (by omega) (by omega)]; omega
  · have hle : l ≠ [] := fun h0 => he (hemp.2 h0)
    refine ⟨by omega, by omega, ?_⟩
    simp only [Int.toNat_natCast]
    refine h1.st_pos ok hs ?_
    intro m2 ok2 kp2 b2
    refine ⟨by omega, by omega, ?_⟩
    simp only [Int.toNat_natCast]
    refine b2.st_neg ok2 hs ?_
    intro m3 ok3 kp3 b3
    refine ⟨_, b3.used, ?_⟩
    dsimp only
    rw [goSlotBit_eq hs]
    refine b3.st_used ok3 ?_
    intro m4 ok4 kp4 b4
    refine hK m4 ok4 ((kp2.trans kp3).trans kp4) ⟨_, b4, h2, ⟨used', row', nf', ?_⟩⟩
    dsimp only
    rw [h3.emp]
    congr 1
    refine cntB_congr 64 fun i _ => ?_
    by_cases hi : i = s
    · subst hi; rw [fupd_at, hSs]; simp [hle]
    · rw [fupd_ne _ _ hi]
end Go.Proofs.Qxb6500974aGreat
