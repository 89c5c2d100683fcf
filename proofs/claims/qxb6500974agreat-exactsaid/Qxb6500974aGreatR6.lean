import Derived.Test.Qxb6500974aGreatR5
set_option linter.all false
set_option linter.unusedSimpArgs false
set_option linter.unusedVariables false
namespace Go.Proofs.Qxb6500974aGreat
open Go.Eng
variable {W0 : World}

def lockedA (t : Tr) (id : Nat) (l : List Int) : Bool := l.any fun x => decide (t.value x = 1) && decide (t.rsnOf (goVar x) = id)
theorem WAt.lit {m : Mem} {b t : Nat} {w : Wt} {c : WaC} (h3 : WRep c w) {id : Nat} (hid : id < 52) {i : Nat} (hi : i < (w id).lits.length) : c.lits (id * 12 + i) = (w id).lits.getD i 0 :=
  h3.lits id hid i _ (getD_some hi 0)
theorem remove_spec {b tb0 : Nat} {w : Wt} {t : Tr} {id : Nat} {K : Value → Mem → Prop} {m : Mem} (h : WAt m b tb0 w) (ht : TrAt m tb0 t) (hbt : b ≠ tb0) (hid : id < 52) (hlive : (w id).st ≠ 0)
    (hK0 : lockedA t id (w id).lits = true → K (.int .i64 14) m)
    (hK1 : lockedA t id (w id).lits = false → ∀ m', m'.Ok → Kp [b] m m' → WAt m' b tb0 (fupd w id ⟨0, []⟩) → K (.int .i64 0) m') : callOK Tryz.prog W0 114 [ptr b 0, .int .i64 id] K m := by
  refine callOK_ok fun ok => call114 ?_
  unfold s114
  have hl : liveB w (id : Int) = true := by simp [liveB, hlive]
  refine live_spec h ⟨_, rfl, ?_⟩
  rw [hl]
  with_reducible refine ifB_not (fun h0 => by cases h0) (fun _ => ?_)
  obtain ⟨g, c, h1, h2, h3⟩ := h
  rw [base_wrap hid]
  generalize hL : (w id).lits = L at hK0 hK1
  have hlen : L.length ≤ 12 := by rw [← hL]; exact (g.cl id).len
  have hgood : ∀ x ∈ L, goGoodLit x = true := by rw [← hL]; exact (g.cl id).good
  refine loop114_1 (γ := Nat) (fun k t4 i m' => m' = m ∧ i = k ∧ k ≤ L.length ∧ lockedA t id (L.drop k) = lockedA t id L) (fun k _ _ => L.length - k) 0 ⟨rfl, rfl, by omega, rfl⟩ ?_
  rintro k t4 i m' ⟨rfl, rfl, hk, hj⟩
  unfold s114_1
  refine ⟨by omega, by omega, ?_⟩
  simp only [Int.toNat_natCast]
  refine ⟨_, h1.size hid, ?_⟩
  rw [h3.size id hid, hL]
  refine ifB_lt (fun hlt => ?_) (fun hlt => ?_)
  · have hkl : k < L.length := by omega
    have hw : IntKind.wrap .i64 (((id * 12 : Nat) : Int) + (k : Int)) = ((id * 12 + k : Nat) : Int) := by rw [wrap_i64 (by omega) (by omega)]; omega
    rw [hw]
    refine ⟨by omega, by omega, ?_⟩
    simp only [Int.toNat_natCast]
    refine ⟨_, h1.lits (by omega), ?_⟩
    rw [h3.lits id hid k (L.getD k 0) (by rw [hL]; exact getD_some hkl 0)]
    refine ⟨_, h1.t, ?_⟩
    rw [h2]
    rw [drop_cons hkl 0] at hj
    simp only [lockedA, List.any_cons] at hj
    generalize L.getD k 0 = x at hj ⊢
    refine value_spec ht ⟨_, rfl, ?_⟩
    refine ifB_eq (fun hv => ?_) (fun hv => ?_)
    · refine ⟨_, h1.t, ?_⟩
      rw [h2]
      refine reason_spec ht ⟨_, rfl, ?_⟩
      refine ifB_eq (fun hr => ?_) (fun hr => ?_)
      · rw [e114_1r]
        refine hK0 ?_
        unfold lockedA
        rw [← hj]
        simp [hv, hr]
      · refine ⟨k + 1, _, _, rfl, ⟨rfl, wrapS k (by omega), by omega, ?_⟩, by omega⟩
        unfold lockedA
        rw [← hj]
        simp [hr]
    · refine ⟨k + 1, _, _, rfl, ⟨rfl, wrapS k (by omega), by omega, ?_⟩, by omega⟩
      unfold lockedA
      rw [← hj]
      simp [hv]
  · rw [e114_1x0]
    have : k = L.length := by omega
    subst this
    rw [List.drop_length] at hj
    have hno : lockedA t id L = false := by rw [← hj]; rfl
    have hK := hK1 hno
    unfold s114_1x0
    refine ⟨_, h1.fresh, _, h1.weak, ?_⟩
    rw [goBit_eq (by omega)]
    have hp := u64_pow (j := id) (by omega)
    have ofw := u64_or h3.fresh.1 h3.weak.1
    have oa := u64_and ofw.1 hp
    have hst := (g.cl id).st
    have hbit : bAnd .u64 (bOr .u64 c.fresh c.weak) ((2 ^ id : Nat) : Int) = 0 ↔ (w id).st = 3 := by
      constructor
      · intro h0
        have := oa.2 id
        rw [h0, tb_zero, ofw.2, h3.fresh.2 id (by omega), h3.weak.2 id (by omega), tb_pow] at this
        simp at this
        omega
      · intro h0
        refine u64_ext oa.1 ⟨by omega, by omega⟩ fun i hi => ?_
        rw [oa.2, tb_zero, ofw.2, h3.fresh.2 i hi, h3.weak.2 i hi, tb_pow]
        by_cases hi2 : i = id
        · subst hi2; simp [h0]
        · simp [hi2]
    have cu := clr64 h3.used.1 (j := id) (by omega)
    have cf := clr64 h3.fresh.1 (j := id) (by omega)
    have cw := clr64 h3.weak.1 (j := id) (by omega)
    have fin : ∀ (c1 : WaC) (m1 : Mem), m1.Ok → Kp [b] m' m1 → WaB m1 b c1 → c1.t = c.t → c1.lits = c.lits → c1.size = c.size → c1.used = c.used → c1.fresh = c.fresh → c1.weak = c.weak →
        (∀ k, k < 26 → U64 (c1.list k) ∧ ∀ i, i < 64 → tb (c1.list k) i = if i = id then false else tb (c.list k) i) →
        ldInt .u64 m1 b 677 fun x_16 => st m1 b 677 (.int .u64 (bAndNot .u64 x_16 ((2 ^ id : Nat) : Int))) fun m_17 => ldInt .u64 m_17 b 678 fun x_18 => st m_17 b 678 (.int .u64 (bAndNot .u64 x_18 ((2 ^ id : Nat) : Int))) fun m_19 =>
          ldInt .u64 m_19 b 679 fun x_20 => st m_19 b 679 (.int .u64 (bAndNot .u64 x_20 ((2 ^ id : Nat) : Int))) fun m_21 => ckI (id : Int) 52 fun j_22 => st m_21 b (625 + j_22) (.int .i64 0) fun m_23 => K (.int .i64 0) m_23 := by
      intro c1 m1 ok1 kp1 b1 e1 e2 e3 e4 e5 e6 e7
      refine ⟨_, b1.used, ?_⟩
      refine b1.st_used ok1 ?_
      intro m2 ok2 kp2 b2
      refine ⟨_, b2.fresh, ?_⟩
      refine b2.st_fresh ok2 ?_
      intro m3 ok3 kp3 b3
      refine ⟨_, b3.weak, ?_⟩
      refine b3.st_weak ok3 ?_
      intro m4 ok4 kp4 b4
      refine ⟨by omega, by omega, ?_⟩
      simp only [Int.toNat_natCast]
      refine b4.st_size ok4 hid ?_
      intro m5 ok5 kp5 b5
      refine hK m5 ok5 ((((kp1.trans kp2).trans kp3).trans kp4).trans kp5) ⟨g.turn hid ⟨by simp, fun _ => rfl, by simp, by simp, by simp⟩, _, b5, e1.trans h2, ?_⟩
      refine WRep.turn g h3 hid ?_ ?_ ?_ ?_ ?_ ?_ ?_
      · dsimp only; rw [e4]
        exact ⟨cu.1, fun i hi => by rw [cu.2 i hi]; simp⟩
      · dsimp only; rw [e5]
        exact ⟨cf.1, fun i hi => by rw [cf.2 i hi]; simp⟩
      · dsimp only; rw [e6]
        exact ⟨cw.1, fun i hi => by rw [cw.2 i hi]; simp⟩
      · intro i hi
        dsimp only; rw [e3]
        by_cases he : i = id
        · subst he; rw [fupd_at]; simp
        · rw [fupd_ne _ _ he]; simp [he]
      · intro i x hx; simp at hx
      · intro j hj; dsimp only; rw [e2]
      · intro k hk
        refine ⟨(e7 k hk).1, fun i hi => ?_⟩
        rw [(e7 k hk).2 i hi]
        simp [watches]
    refine ifB_eq (fun h0 => ?_) (fun h0 => ?_)
    · have h3s := hbit.1 h0
      have h2l := (g.cl id).two h3s
      rw [hL] at h2l
      have x0 := h3.lits id hid 0 (L.getD 0 0) (by rw [hL]; exact getD_some (by omega) 0)
      have x1 := h3.lits id hid 1 (L.getD 1 0) (by rw [hL]; exact getD_some (by omega) 0)
      refine unlink_raw h1 hid x0 x1 (hgood _ (mem_getD (by omega) 0)) (hgood _ (mem_getD (by omega) 0)) (fun k hk => (h3.list k hk).1) ?_
      intro m1 LL ok1 kp1 b1 hLL
      refine ⟨rfl, ?_⟩
      refine fin _ m1 ok1 kp1 b1 rfl rfl rfl rfl rfl rfl ?_
      intro k hk
      refine ⟨(hLL k hk).1, fun i hi => ?_⟩
      dsimp only
      rw [(hLL k hk).2 i hi]
      by_cases he : i = id
      · subst he
        rw [if_pos rfl, if_pos rfl, (h3.list k hk).2 _ hi]
        simp only [watches, hL, h3s, decide_true, Bool.true_and]
        cases decide (goCode (L.getD 0 0) = (k : Int)) <;> cases decide (goCode (L.getD 1 0) = (k : Int)) <;> rfl
      · rw [if_neg he, if_neg he]
    · refine fin c m' ok (Kp.refl _ _) h1 rfl rfl rfl rfl rfl rfl ?_
      intro k hk
      refine ⟨(h3.list k hk).1, fun i hi => ?_⟩
      by_cases he : i = id
      · subst he
        rw [if_pos rfl, (h3.list k hk).2 _ hi]
        have : ¬ (w i).st = 3 := fun h => h0 (hbit.2 h)
        simp [watches, this]
      · rw [if_neg he]

def swapL (ls : List Int) (i k : Nat) : List Int := (ls.set i (ls.getD k 0)).set k (ls.getD i 0)
theorem swapL_len (ls : List Int) (i k : Nat) : (swapL ls i k).length = ls.length := by simp [swapL]
theorem set_perm_aux {α : Type} : ∀ (ls : List α) (i : Nat) (x : α) (h : i < ls.length), (x :: ls).Perm (ls[i] :: ls.set i x)
  | y :: ys, 0, x, h => by simpa using List.Perm.swap _ _ _
  | y :: ys, i + 1, x, h => by
    have ih := set_perm_aux ys i x (by simpa using h)
    simp only [List.getElem_cons_succ, List.set_cons_succ]
    exact (List.Perm.swap y x ys).trans ((ih.cons y).trans (List.Perm.swap _ _ _))
theorem swapL_perm {ls : List Int} {i k : Nat} (hi : i < ls.length) (hk : k < ls.length) : (swapL ls i k).Perm ls := by
  by_cases hik : i = k
  · subst hik
    unfold swapL
    have : ls.getD i 0 = ls[i] := by simp [List.getD, hi]
    rw [this]
    simp
  · unfold swapL
    have e1 : ls.getD i 0 = ls[i] := by simp [List.getD, hi]
    have e2 : ls.getD k 0 = ls[k] := by simp [List.getD, hk]
    rw [e1, e2]
    have h1 := set_perm_aux ls i ls[k] hi
    have h2 := set_perm_aux (ls.set i ls[k]) k ls[i] (by simpa using hk)
    have e3 : (ls.set i ls[k])[k]'(by simpa using hk) = ls[k] := by rw [List.getElem_set_ne (by omega)]
    rw [e3] at h2
    exact (List.perm_cons _).1 (h2.symm.trans h1.symm)
def lookA (v : Int → Int) : Nat → Nat → Nat → List Int → List Int × Nat
  | 0, _, k, ls => (ls, k)
  | f + 1, i, k, ls => if k < 2 then (if v (ls.getD i 0) ≠ -1 then lookA v f (i + 1) (k + 1) (swapL ls i k) else lookA v f (i + 1) k ls) else (ls, k)
theorem lookA_perm (v : Int → Int) : ∀ (f i k : Nat) (ls : List Int), k ≤ i → i + f ≤ ls.length → (lookA v f i k ls).1.Perm ls ∧ (lookA v f i k ls).2 ≤ 2 + k
  | 0, i, k, ls, _, _ => ⟨List.Perm.refl _, by simp [lookA]⟩
  | f + 1, i, k, ls, hk, hf => by
    simp only [lookA]
    split
    · split
      · have := lookA_perm v f (i + 1) (k + 1) (swapL ls i k) (by omega) (by rw [swapL_len]; omega)
        refine ⟨this.1.trans (swapL_perm (by omega) (by omega)), ?_⟩
        rename_i h2 _
        have h3 : ∀ (f i k : Nat) (ls : List Int), k ≤ 2 → (lookA v f i k ls).2 ≤ 2 := by
          intro f
          induction f with
          | zero => intro i k ls h; simpa [lookA] using h
          | succ f ih =>
            intro i k ls h
            simp only [lookA]
            split
            · split
              · exact ih _ _ _ (by omega)
              · exact ih _ _ _ h
            · exact h
        have := h3 f (i + 1) (k + 1) (swapL ls i k) (by omega)
        omega
      · exact lookA_perm v f (i + 1) k ls (by omega) (by omega)
    · exact ⟨List.Perm.refl _, by simp⟩
theorem lookA_two (v : Int → Int) : ∀ (f i k : Nat) (ls : List Int), k ≤ 2 → (lookA v f i k ls).2 ≤ 2
  | 0, i, k, ls, h => by simpa [lookA] using h
  | f + 1, i, k, ls, h => by
    simp only [lookA]
    split
    · split
      · exact lookA_two v f _ _ _ (by omega)
      · exact lookA_two v f _ _ _ h
    · exact h
theorem lookA_le (v : Int → Int) : ∀ (f i k : Nat) (ls : List Int), (lookA v f i k ls).2 ≤ k + f
  | 0, i, k, ls => by simp [lookA]
  | f + 1, i, k, ls => by
    simp only [lookA]
    split
    · split
      · have := lookA_le v f (i + 1) (k + 1) (swapL ls i k); omega
      · have := lookA_le v f (i + 1) k ls; omega
    · simp
def gLook (w : Wt) (t : Tr) (id : Nat) : Wt × Tr × Int :=
  let r := lookA t.value (w id).lits.length 0 0 (w id).lits
  if r.2 = 2 then (fupd w id ⟨3, r.1⟩, t, -1)
  else if r.2 = 0 then (fupd w id ⟨2, r.1⟩, t, id)
  else if t.value (r.1.getD 0 0) = 0 then (fupd w id ⟨2, r.1⟩, t.join (r.1.getD 0 0) id, -1)
  else (fupd w id ⟨2, r.1⟩, t, -1)
theorem value_open {t : Tr} {l : Int} (hg : goGoodLit l = true) (h : t.value l = 0) : entOf t.es l.natAbs = none := by
  unfold Tr.value at h
  rw [if_pos hg] at h
  split at h
  · exact valE_zero.1 (by omega)
  · exact valE_zero.1 h
theorem swap_getD {ls : List Int} {i k j : Nat} (hi : i < ls.length) (hk : k < ls.length) : (swapL ls i k).getD j 0 = if j = k then ls.getD i 0 else if j = i then ls.getD k 0 else ls.getD j 0 := by
  unfold swapL
  simp only [List.getD_eq_getElem?_getD, List.getElem?_set, List.length_set]
  by_cases h1 : k = j
  · subst h1; simp [hk]
  · by_cases h2 : i = j
    · subst h2
      have : ¬ (i = k) := fun h => h1 h.symm
      simp [h1, this, hi]
    · have a1 : ¬ (j = k) := fun h => h1 h.symm
      have a2 : ¬ (j = i) := fun h => h2 h.symm
      simp [h1, h2, a1, a2]

theorem look_spec {b tb0 : Nat} {w : Wt} {t : Tr} {id : Nat} {K : Value → Mem → Prop} {m : Mem} (h : WAt m b tb0 w) (ht : TrAt m tb0 t) (hbt : b ≠ tb0) (hid : id < 52) (hst : (w id).st = 1 ∨ (w id).st = 2)
    (hK : ∀ m', m'.Ok → Kp [b, tb0] m m' → WAt m' b tb0 (gLook w t id).1 → TrAt m' tb0 (gLook w t id).2.1 → K (.int .i64 (gLook w t id).2.2) m') : callOK Tryz.prog W0 99 [ptr b 0, .int .i64 id] K m := by
  refine callOK_ok fun ok => call99 ?_
  obtain ⟨g, c, h1, h2, h3⟩ := h
  have htb : tb0 ∉ [b] := by simpa using fun h => hbt h.symm
  unfold s99
  refine ⟨_, h1.visits, ?_⟩
  refine h1.st_visits ok ?_
  intro m1 ok1 kp1 b1
  refine ⟨by omega, by omega, ?_⟩
  simp only [Int.toNat_natCast]
  refine ⟨_, b1.size hid, ?_⟩
  dsimp only
  rw [h3.size id hid, base_wrap hid]
  have hgl : gLook w t id = gLook w t id := rfl
  unfold gLook at hK
  generalize hL : (w id).lits = L at hK
  have hlen : L.length ≤ 12 := by rw [← hL]; exact (g.cl id).len
  have hgood : ∀ x ∈ L, goGoodLit x = true := by rw [← hL]; exact (g.cl id).good
  have hvars : L.Pairwise fun a b => a.natAbs ≠ b.natAbs := by rw [← hL]; exact (g.cl id).vars
  obtain ⟨r, hr⟩ : ∃ r, lookA t.value L.length 0 0 L = r := ⟨_, rfl⟩
  have hperm := (lookA_perm t.value L.length 0 0 L (by omega) (by omega)).1
  have htwo := lookA_two t.value L.length 0 0 L (by omega)
  have hkle := lookA_le t.value L.length 0 0 L
  rw [hr] at hK hperm htwo hkle
  dsimp only at hK
  have hcell : ∀ i, i < L.length → c.lits (id * 12 + i) = L.getD i 0 := fun i hi => h3.lits id hid i _ (by rw [hL]; exact getD_some hi 0)
  refine loop99_1 (γ := Nat × Nat × List Int × WaC) (fun g k i m' => i = g.1 ∧ k = g.2.1 ∧ g.1 ≤ L.length ∧ g.2.1 ≤ g.1 ∧ g.2.1 ≤ 2 ∧ g.2.2.1.length = L.length ∧ g.2.2.1.Perm L ∧ m'.Ok ∧ Kp [b] m m' ∧ WaB m' b g.2.2.2 ∧ (∀ j, j < L.length → g.2.2.2.lits (id * 12 + j) = g.2.2.1.getD j 0) ∧
      (∀ j, (j < id * 12 ∨ id * 12 + 12 ≤ j) → g.2.2.2.lits j = c.lits j) ∧ g.2.2.2.t = tb0 ∧ g.2.2.2.size = c.size ∧ g.2.2.2.used = c.used ∧ g.2.2.2.fresh = c.fresh ∧ g.2.2.2.weak = c.weak ∧ g.2.2.2.list = c.list ∧
      lookA t.value (L.length - g.1) g.1 g.2.1 g.2.2.1 = r) (fun g _ _ => L.length - g.1) (0, 0, L, _)
    ⟨rfl, rfl, by dsimp only; omega, by dsimp only; omega, by dsimp only; omega, rfl, List.Perm.refl _, ok1, kp1, b1, hcell, fun _ _ => rfl, h2, rfl, rfl, rfl, rfl, rfl, hr⟩ ?_
  rintro ⟨i, k, ls, c2⟩ k7 i8 m2 ⟨rfl, rfl, hi, hki, hk2, hll, hpm, ok2, kp2, b2, e1, e2, e3, e4, e5, e6, e7, e8, hj⟩
  dsimp only at hi hki hk2 hll hpm b2 e1 e2 e3 e4 e5 e6 e7 e8 hj ⊢
  have ht2 := ht.keep kp2 htb
  have hfin : ¬ (i < L.length ∧ k < 2) → s99_1x0 (callOK Tryz.prog W0) b (id : Int) ((id * 12 : Nat) : Int) ((L.length : Nat) : Int) (k : Int) (i : Int) K m2 := by
    intro hno
    have hrr : r = (ls, k) := by
      rw [← hj]
      by_cases h0 : i < L.length
      · have ef : L.length - i = (L.length - (i + 1)) + 1 := by omega
        rw [ef]
        simp only [lookA]
        rw [if_neg (by omega)]
      · have ef : L.length - i = 0 := by omega
        rw [ef]; rfl
    subst hrr
    dsimp only at hK hperm htwo hkle
    have cgood : ∀ st : Nat, (st = 2 ∨ (st = 3 ∧ 2 ≤ ls.length)) → ClGood ⟨st, ls⟩ := by
      intro st hs
      refine ⟨by dsimp only; omega, by dsimp only; omega, ?_, ?_, by dsimp only; omega⟩
      · intro x hx; exact hgood x (hpm.mem_iff.1 hx)
      · exact (hpm.pairwise_iff (fun h => h.symm)).2 hvars
    have hlist : ∀ k, k < 26 → ∀ i, i < 64 → i = id → tb (c.list k) i = false := by
      intro k hk i hi hii
      subst hii
      rw [(h3.list k hk).2 _ hi]
      have : ¬ (w i).st = 3 := by omega
      simp [watches, this]
    have hlits : ∀ j x, ls[j]? = some x → c2.lits (id * 12 + j) = x := by
      intro j x hx
      have hjl : j < ls.length := by
        rcases Nat.lt_or_ge j ls.length with h | h
        · exact h
        · rw [List.getElem?_eq_none h] at hx; cases hx
      rw [e1 j (by omega)]
      simp [List.getD, hx]
    have cf := clr64 h3.fresh.1 (j := id) (by omega)
    have cw := clr64 h3.weak.1 (j := id) (by omega)
    have sw := set64 h3.weak.1 (j := id) (by omega)
    unfold s99_1x0
    rw [goBit_eq (by omega)]
    refine ⟨_, b2.fresh, ?_⟩
    rw [e6]
    refine b2.st_fresh ok2 ?_
    intro m3 ok3 kp3 b3
    refine ifB_eq (fun hk2' => ?_) (fun hk2' => ?_)
    · have hkk : k = 2 := by omega
      rw [if_pos hkk] at hK
      refine ⟨_, b3.weak, ?_⟩
      dsimp only
      rw [e7]
      refine b3.st_weak ok3 ?_
      intro m4 ok4 kp4 b4
      have h2l : 2 ≤ ls.length := by omega
      have gx : ∀ j, j < ls.length → goGoodLit (ls.getD j 0) = true := fun j hj => hgood _ (hpm.mem_iff.1 (mem_getD hj 0))
      refine link_raw b4 hid (e1 0 (by omega)) (e1 1 (by omega)) (gx 0 (by omega)) (gx 1 (by omega)) (fun k hk => by dsimp only; rw [e8]; exact (h3.list k hk).1) ?_
      intro m5 LL ok5 kp5 b5 hLL
      refine ⟨rfl, ?_⟩
      have kk := ((kp2.trans kp3).trans kp4).trans kp5
      refine hK m5 ok5 (kk.mono (by simp)) ⟨g.turn hid (cgood 3 (.inr ⟨rfl, h2l⟩)), _, b5, e3, ?_⟩ (ht.keep kk htb)
      refine WRep.turn g h3 hid ?_ ?_ ?_ ?_ hlits e2 ?_
      · dsimp only; rw [e5]
        refine ⟨h3.used.1, fun i hi => ?_⟩
        by_cases he : i = id
        · subst he; rw [h3.used.2 _ hi]; simp; omega
        · simp [he]
      · dsimp only
        exact ⟨cf.1, fun i hi => by rw [cf.2 i hi]; simp⟩
      · dsimp only
        exact ⟨cw.1, fun i hi => by rw [cw.2 i hi]; simp⟩
      · intro i hi
        dsimp only; rw [e4]
        by_cases he : i = id
        · subst he; rw [h3.size i hi, hL, if_pos rfl, hll]
        · simp [he]
      · intro k hk
        refine ⟨(hLL k hk).1, fun i hi => ?_⟩
        dsimp only at hLL ⊢
        rw [(hLL k hk).2 i hi]
        by_cases he : i = id
        · subst he
          rw [if_pos rfl, if_pos rfl, e8, hlist k hk i hi rfl]
          simp [watches]
        · rw [if_neg he, if_neg he, e8]
    · have hkn : ¬ k = 2 := by omega
      rw [if_neg hkn] at hK
      refine ⟨_, b3.weak, ?_⟩
      dsimp only
      rw [e7]
      refine b3.st_weak ok3 ?_
      intro m4 ok4 kp4 b4
      have kk := (kp2.trans kp3).trans kp4
      have ht4 := ht.keep kk htb
      have wat : WAt m4 b tb0 (fupd w id ⟨2, ls⟩) := by
        refine ⟨g.turn hid (cgood 2 (.inl rfl)), _, b4, e3, ?_⟩
        refine WRep.turn g h3 hid ?_ ?_ ?_ ?_ hlits e2 ?_
        · dsimp only; rw [e5]
          refine ⟨h3.used.1, fun i hi => ?_⟩
          by_cases he : i = id
          · subst he; rw [h3.used.2 _ hi]; simp; omega
          · simp [he]
        · dsimp only
          exact ⟨cf.1, fun i hi => by rw [cf.2 i hi]; simp⟩
        · dsimp only
          exact ⟨sw.1, fun i hi => by rw [sw.2 i]; simp⟩
        · intro i hi
          dsimp only; rw [e4]
          by_cases he : i = id
          · subst he; rw [h3.size i hi, hL, if_pos rfl, hll]
          · simp [he]
        · intro k hk
          dsimp only
          rw [e8]
          refine ⟨(h3.list k hk).1, fun i hi => ?_⟩
          by_cases he : i = id
          · rw [hlist k hk i hi he, if_pos he]; simp [watches]
          · rw [if_neg he]
      refine ifB_eq (fun hk0 => ?_) (fun hk0 => ?_)
      · rw [if_pos (by omega)] at hK
        exact hK m4 ok4 (kk.mono (by simp)) wat ht4
      · rw [if_neg (by omega)] at hK
        have hl0 : 0 < ls.length := by omega
        refine ⟨by omega, by omega, ?_⟩
        simp only [Int.toNat_natCast]
        refine ⟨_, b4.lits (by omega), ?_⟩
        dsimp only
        have e10 := e1 0 (by omega)
        rw [Nat.add_zero] at e10
        rw [e10]
        refine ⟨_, b4.t, ?_⟩
        dsimp only
        rw [e3]
        have gx : goGoodLit (ls.getD 0 0) = true := hgood _ (hpm.mem_iff.1 (mem_getD hl0 0))
        refine value_spec ht4 ⟨_, rfl, ?_⟩
        refine ifB_eq (fun hv => ?_) (fun hv => ?_)
        · rw [if_pos hv] at hK
          refine ⟨_, b4.t, ?_⟩
          dsimp only
          rw [e3]
          refine assign_spec ht4 gx (by omega) (value_open gx hv) ?_
          intro m5 ok5 kp5 ht5
          refine ⟨_, rfl, ?_⟩
          exact hK m5 ok5 ((kk.mono (by simp)).trans (kp5.mono (by simp))) (wat.keep kp5 (by simpa using hbt)) ht5
        · rw [if_neg hv] at hK
          exact hK m4 ok4 (kk.mono (by simp)) wat ht4
  by_cases hc : i < L.length ∧ k < 2
  · obtain ⟨hil, hk⟩ := hc
    have ef : L.length - i = (L.length - (i + 1)) + 1 := by omega
    rw [ef] at hj
    simp only [lookA] at hj
    rw [if_pos hk] at hj
    have hwi : IntKind.wrap .i64 (((id * 12 : Nat) : Int) + (i : Int)) = ((id * 12 + i : Nat) : Int) := by rw [wrap_i64 (by omega) (by omega)]; omega
    have hwk : IntKind.wrap .i64 (((id * 12 : Nat) : Int) + (k : Int)) = ((id * 12 + k : Nat) : Int) := by rw [wrap_i64 (by omega) (by omega)]; omega
    unfold s99_1
    rw [hwi, hwk]
    refine ifB_lt (fun _ => ?_) (fun h0 => ?_)
    · refine ifB_lt (fun _ => ?_) (fun h0 => ?_)
      · refine ⟨by omega, by omega, ?_⟩
        simp only [Int.toNat_natCast]
        refine ⟨_, b2.lits (by omega), ?_⟩
        rw [e1 i hil]
        refine ⟨_, b2.t, ?_⟩
        rw [e3]
        refine value_spec ht2 ⟨_, rfl, ?_⟩
        refine ifB_ne (fun hv => ?_) (fun hv => ?_)
        · rw [if_pos hv] at hj
          refine ⟨by omega, by omega, ?_⟩
          simp only [Int.toNat_natCast]
          refine ⟨_, b2.lits (by omega), ?_⟩
          rw [e1 k (by omega)]
          refine ⟨by omega, by omega, ?_⟩
          simp only [Int.toNat_natCast]
          refine b2.st_lits ok2 (by omega) ?_
          intro m3 ok3 kp3 b3
          refine ⟨by omega, by omega, ?_⟩
          simp only [Int.toNat_natCast]
          refine b3.st_lits ok3 (by omega) ?_
          intro m4 ok4 kp4 b4
          refine ⟨(i + 1, k + 1, swapL ls i k, _), _, _, rfl, ⟨wrapS i (by omega), wrapS k (by omega), by dsimp only; omega, by dsimp only; omega, by dsimp only; omega, by dsimp only; rw [swapL_len]; exact hll, (swapL_perm (by omega) (by omega)).trans hpm, ok4, (kp2.trans kp3).trans kp4, b4, ?_, ?_, e3, e4, e5, e6, e7, e8, hj⟩, by dsimp only; omega⟩
          · intro j hj2
            dsimp only
            rw [swap_getD (by omega) (by omega)]
            by_cases h1 : j = k
            · subst h1; rw [fupd_at, if_pos rfl]
            · rw [if_neg h1, fupd_ne _ _ (by omega)]
              by_cases h2 : j = i
              · subst h2; rw [fupd_at, if_pos rfl]
              · rw [if_neg h2, fupd_ne _ _ (by omega)]; exact e1 j hj2
          · intro j hj2
            dsimp only
            rw [fupd_ne _ _ (by omega), fupd_ne _ _ (by omega)]; exact e2 j hj2
        · rw [if_neg (by simpa using hv)] at hj
          exact ⟨(i + 1, k, ls, c2), _, _, rfl, ⟨wrapS i (by omega), rfl, by dsimp only; omega, by dsimp only; omega, by dsimp only; omega, hll, hpm, ok2, kp2, b2, e1, e2, e3, e4, e5, e6, e7, e8, hj⟩, by dsimp only; omega⟩
      · have hF : False := by omega
        cases hF
    · have hF : False := by omega
      cases hF
  · have hx := hfin hc
    unfold s99_1
    refine ifB_lt (fun _ => ?_) (fun h0 => ?_)
    · refine ifB_lt (fun _ => ?_) (fun h0 => ?_)
      · have hF : False := by omega
        cases hF
      · rw [e99_1x0]; exact hx
    · rw [e99_1x0]; exact hx
end Go.Proofs.Qxb6500974aGreat
