import Derived.Test.Qxb6500974aGreatR8
import Derived.Test.Qxb6500974aGreatP1
set_option linter.all false
set_option linter.unusedSimpArgs false
set_option linter.unusedVariables false
namespace Go.Proofs.Qxb6500974aGreat
open Go.Eng

def Tr.tr (t : Tr) (x : Int) : Prop := ∃ e ∈ t.es, e.lit = x
theorem val_pm (t : Tr) (x : Int) : t.value x = 1 ∨ t.value x = -1 ∨ t.value x = 0 := by
  unfold Tr.value
  have := valE_range (entOf t.es x.natAbs)
  split
  · split <;> omega
  · omega
theorem val_one {t : Tr} (g : t.Good) {x : Int} (hx : goGoodLit x = true) : t.value x = 1 ↔ t.tr x := by
  unfold Tr.value Tr.tr
  rw [if_pos hx]
  have hx0 := (good_abs hx).1
  constructor
  · intro h
    cases he : entOf t.es x.natAbs with
    | none => rw [he] at h; simp [valE] at h
    | some e =>
      rw [he] at h
      obtain ⟨hm, ha⟩ := entOf_mem he
      refine ⟨e, hm, ?_⟩
      have hg := good_abs (g.lits e hm)
      simp only [valE] at h
      split at h <;> split at h <;> omega
  · rintro ⟨e, hm, rfl⟩
    rw [entOf_of g.vars hm]
    simp only [valE]
    split <;> omega
theorem val_neg {t : Tr} {x : Int} (hx : goGoodLit x = true) : t.value (-x) = -(t.value x) := by
  unfold Tr.value
  rw [if_pos hx, if_pos (good_neg hx), Int.natAbs_neg]
  have hx0 := (good_abs hx).1
  split <;> split <;> omega
theorem val_m1 {t : Tr} (g : t.Good) {x : Int} (hx : goGoodLit x = true) : t.value x = -1 ↔ t.tr (-x) := by
  rw [← val_one g (good_neg hx), val_neg hx]
  omega
theorem val_0 {t : Tr} (g : t.Good) {x : Int} (hx : goGoodLit x = true) : t.value x = 0 ↔ ¬ t.tr x ∧ ¬ t.tr (-x) := by
  rw [← val_one g hx, ← val_m1 g hx]
  have := val_pm t x
  omega
theorem tr_cons {t : Tr} (g : t.Good) : Cons t.tr := by
  rintro x ⟨e, he, rfl⟩ ⟨f, hf, h⟩
  have h1 := entOf_of g.vars he
  have h2 := entOf_of g.vars hf
  rw [h, Int.natAbs_neg, h1] at h2
  cases h2
  have := good_abs (g.lits _ he)
  omega

def Tr.pl (t : Tr) (i : Nat) (x : Int) : Prop := ∃ e, t.es[i]? = some e ∧ e.lit = x
theorem tr_pl {t : Tr} {x : Int} : t.tr x ↔ ∃ i, t.pl i x := by
  constructor
  · rintro ⟨e, he, rfl⟩
    obtain ⟨i, hi, rfl⟩ := List.mem_iff_getElem.1 he
    exact ⟨i, _, List.getElem?_eq_getElem hi, rfl⟩
  · rintro ⟨i, e, he, rfl⟩
    exact ⟨e, List.mem_of_getElem? he, rfl⟩
theorem pl_lt {t : Tr} {i : Nat} {x : Int} (h : t.pl i x) : i < t.es.length := by
  obtain ⟨e, he, _⟩ := h
  rcases Nat.lt_or_ge i t.es.length with h | h
  · exact h
  · rw [List.getElem?_eq_none h] at he; cases he
theorem plc_at {es : List Ent} (hv : es.Pairwise fun a b => a.lit.natAbs ≠ b.lit.natAbs) : ∀ {i k : Nat} {e : Ent}, es[i]? = some e → plcOf es k e.lit.natAbs = (k + i : Nat) := by
  induction es with
  | nil => intro i k e h; simp at h
  | cons x xs ih =>
    intro i k e h
    rw [List.pairwise_cons] at hv
    cases i with
    | zero => simp at h; subst h; simp [plcOf]
    | succ i =>
      simp at h
      simp only [plcOf]
      rw [if_neg (hv.1 e (List.mem_of_getElem? h)), ih hv.2 h]
      omega
theorem pl_var {t : Tr} (g : t.Good) {i : Nat} {x : Int} (h : t.pl i x) : t.plcOf (goVar x) = i ∧ t.plcOf (goVar (-x)) = i := by
  obtain ⟨e, he, rfl⟩ := h
  have hg := g.lits e (List.mem_of_getElem? he)
  have ha := good_abs hg
  have hb := good_abs (good_neg hg)
  have := plc_at g.vars (k := 0) he
  have hv : goIsVar ((e.lit.natAbs : Nat) : Int) = true := isVar_iff.2 (by omega)
  unfold Tr.plcOf
  rw [ha.2.2.2.2, hb.2.2.2.2, Int.natAbs_neg, if_pos hv]
  simp only [Int.natAbs_natCast]
  rw [this]
  simp
theorem pl_inj {t : Tr} (g : t.Good) {i j : Nat} {x y : Int} (h : t.pl i x) (k : t.pl j y) (hv : x.natAbs = y.natAbs) : i = j := by
  obtain ⟨e, he, rfl⟩ := h
  obtain ⟨f, hf, rfl⟩ := k
  have h1 := plc_at g.vars (k := 0) he
  have h2 := plc_at g.vars (k := 0) hf
  rw [hv] at h1
  omega
theorem at_pl {t : Tr} {i : Nat} (h : i < t.es.length) : t.pl i (t.at i) := by
  unfold Tr.at
  rw [if_pos (by omega)]
  simp only [Int.toNat_natCast]
  exact ⟨t.es[i], List.getElem?_eq_getElem h, by simp [h]⟩

def Hold (t : Tr) (cur : Nat) (a o : Int) : Prop := ¬ t.tr (-a) ∨ ∃ i, t.pl i (-a) ∧ (cur ≤ i ∨ ∃ j, j < i ∧ t.pl j o)
theorem pl_snoc {t : Tr} {l r : Int} {i : Nat} {x : Int} : (t.join l r).pl i x ↔ t.pl i x ∨ (i = t.es.length ∧ x = l) := by
  unfold Tr.pl Tr.join
  dsimp only
  constructor
  · rintro ⟨e, he, rfl⟩
    rw [List.getElem?_append] at he
    split at he
    · exact .inl ⟨e, he, rfl⟩
    · rename_i hge
      have : i - t.es.length < 1 := by
        rcases Nat.lt_or_ge (i - t.es.length) 1 with h | h
        · exact h
        · rw [List.getElem?_eq_none (by simpa using h)] at he; cases he
      have hi : i = t.es.length := by omega
      subst hi
      simp at he
      subst he
      exact .inr ⟨rfl, rfl⟩
  · rintro (⟨e, he, rfl⟩ | ⟨rfl, rfl⟩)
    · have hl := pl_lt (t := t) ⟨e, he, rfl⟩
      exact ⟨e, by rw [List.getElem?_append_left hl]; exact he, rfl⟩
    · exact ⟨⟨x, t.dep, r⟩, by simp, rfl⟩
theorem tr_snoc {t : Tr} {l r : Int} {x : Int} : (t.join l r).tr x ↔ t.tr x ∨ x = l := by
  unfold Tr.tr Tr.join
  simp only [List.mem_append, List.mem_singleton]
  constructor
  · rintro ⟨e, he | rfl, rfl⟩
    · exact .inl ⟨e, he, rfl⟩
    · exact .inr rfl
  · rintro (⟨e, he, rfl⟩ | rfl)
    · exact ⟨e, .inl he, rfl⟩
    · exact ⟨_, .inr rfl, rfl⟩
theorem Hold.join {t : Tr} {cur : Nat} {a o l r : Int} (h : Hold t cur a o) (hc : cur ≤ t.es.length) : Hold (t.join l r) cur a o := by
  rcases h with h | ⟨i, h1, h2⟩
  · by_cases he : -a = l
    · exact .inr ⟨t.es.length, pl_snoc.2 (.inr ⟨rfl, he⟩), .inl hc⟩
    · exact .inl fun h0 => (tr_snoc.1 h0).elim h he
  · refine .inr ⟨i, pl_snoc.2 (.inl h1), h2.orMap id ?_⟩
    rintro ⟨j, hj, h3⟩
    exact ⟨j, hj, pl_snoc.2 (.inl h3)⟩
theorem Hold.lower {t : Tr} {c c' : Nat} {a o : Int} (h : Hold t c a o) (hc : c' ≤ c) : Hold t c' a o := by
  rcases h with h | ⟨i, h1, h2⟩
  · exact .inl h
  · exact .inr ⟨i, h1, h2.orMap (fun h => by omega) id⟩

def prevL (es : List Ent) : Nat → Nat
  | 0 => 0
  | i + 1 => ((es[i]?).map Ent.lev).getD 0
theorem stair_last : ∀ {es : List Ent} {p d : Nat}, stair p es d → es ≠ [] → ((es[es.length - 1]?).map Ent.lev).getD 0 = d
  | [], _, _, _, h => absurd rfl h
  | [e], p, d, h, _ => by
    simp only [stair] at h
    simp [h.2]
  | e :: f :: es, p, d, h, _ => by
    have := stair_last h.2 (by simp)
    simpa using this
theorem prevL_len {t : Tr} (g : t.Good) : prevL t.es t.es.length = t.dep := by
  cases hl : t.es.length with
  | zero =>
    have : t.es = [] := List.length_eq_zero_iff.1 hl
    have hs := g.st
    rw [this] at hs
    simp only [stair] at hs
    simp [prevL, hs]
  | succ n =>
    simp only [prevL]
    have := stair_last g.st (by intro h0; rw [h0] at hl; cases hl)
    rw [hl] at this
    simpa using this

def Why (w : Wt) (t : Tr) (i : Nat) (e : Ent) : Prop :=
  (e.rsn = -1 ∧ e.lev = prevL t.es i + 1) ∨ ∃ r : Nat, e.rsn = r ∧ r < 52 ∧ (w r).st ≠ 0 ∧ e.lit ∈ (w r).lits ∧ e.lev = prevL t.es i ∧ ∀ x ∈ (w r).lits, x ≠ e.lit → ∃ j, j < i ∧ t.pl j (-x)
def RInv (w : Wt) (t : Tr) : Prop := ∀ i e, t.es[i]? = some e → Why w t i e
def Same (w w' : Wt) : Prop := ∀ id, ((w' id).st = 0 ↔ (w id).st = 0) ∧ (w' id).lits.Perm (w id).lits
theorem Same.refl (w : Wt) : Same w w := fun _ => ⟨Iff.rfl, List.Perm.refl _⟩
theorem Same.trans {a b c : Wt} (h : Same a b) (k : Same b c) : Same a c := fun id => ⟨(k id).1.trans (h id).1, (k id).2.trans (h id).2⟩
theorem Same.upd {w : Wt} {id : Nat} {st : Nat} {ls : List Int} (h0 : (w id).st ≠ 0) (hs : st ≠ 0) (hp : ls.Perm (w id).lits) : Same w (fupd w id ⟨st, ls⟩) := by
  intro j
  by_cases he : j = id
  · subst he; rw [fupd_at]; exact ⟨by simp [h0, hs], hp⟩
  · rw [fupd_ne _ _ he]; exact ⟨Iff.rfl, List.Perm.refl _⟩
theorem Why.same {w w' : Wt} {t : Tr} {i : Nat} {e : Ent} (h : Why w t i e) (hs : Same w w') : Why w' t i e := by
  rcases h with h | ⟨r, h1, h2, h3, h4, h5, h6⟩
  · exact .inl h
  · refine .inr ⟨r, h1, h2, fun h0 => h3 ((hs r).1.1 h0), (hs r).2.mem_iff.2 h4, h5, fun x hx => h6 x ((hs r).2.mem_iff.1 hx)⟩
theorem RInv.same {w w' : Wt} {t : Tr} (h : RInv w t) (hs : Same w w') : RInv w' t := fun i e he => (h i e he).same hs
theorem prevL_snoc {es : List Ent} {f : Ent} : ∀ {i : Nat}, i ≤ es.length → prevL (es ++ [f]) i = prevL es i
  | 0, _ => rfl
  | i + 1, h => by simp only [prevL]; rw [List.getElem?_append_left (by omega)]
theorem Why.join {w : Wt} {t : Tr} {i : Nat} {e : Ent} {l r : Int} (h : Why w t i e) (hi : i ≤ t.es.length) : Why w (t.join l r) i e := by
  have ep : prevL (t.join l r).es i = prevL t.es i := prevL_snoc hi
  rcases h with h | ⟨q, h1, h2, h3, h4, h5, h6⟩
  · exact .inl (by rw [ep]; exact h)
  · refine .inr ⟨q, h1, h2, h3, h4, by rw [ep]; exact h5, fun x hx hne => ?_⟩
    obtain ⟨j, hj, h7⟩ := h6 x hx hne
    exact ⟨j, hj, pl_snoc.2 (.inl h7)⟩
theorem RInv.join {w : Wt} {t : Tr} {u : Int} {id : Nat} (h : RInv w t) (g : t.Good) (hid : id < 52) (hst : (w id).st ≠ 0) (hu : u ∈ (w id).lits) (hf : ∀ x ∈ (w id).lits, x ≠ u → t.tr (-x)) : RInv w (t.join u id) := by
  intro i e he
  have hj : (t.join u id).es = t.es ++ [⟨u, t.dep, (id : Int)⟩] := rfl
  rw [hj, List.getElem?_append] at he
  split at he
  · rename_i hlt
    exact (h i e he).join (by omega)
  · rename_i hge
    have : i - t.es.length < 1 := by
      rcases Nat.lt_or_ge (i - t.es.length) 1 with h | h
      · exact h
      · rw [List.getElem?_eq_none (by simpa using h)] at he; cases he
    have hi : i = t.es.length := by omega
    subst hi
    simp at he
    subst he
    refine .inr ⟨id, rfl, hid, hst, hu, ?_, ?_⟩
    · show t.dep = prevL (t.es ++ [_]) t.es.length
      rw [prevL_snoc (Nat.le_refl _), prevL_len g]
    · intro x hx hne
      obtain ⟨j, hj2⟩ := tr_pl.1 (hf x hx hne)
      exact ⟨j, pl_lt hj2, pl_snoc.2 (.inl hj2)⟩

theorem mem_getD_iff {l : List Int} {x : Int} : x ∈ l ↔ ∃ j, j < l.length ∧ l.getD j 0 = x := by
  constructor
  · intro h
    obtain ⟨j, hj, rfl⟩ := List.mem_iff_getElem.1 h
    exact ⟨j, hj, by simp [List.getD, hj]⟩
  · rintro ⟨j, hj, rfl⟩
    exact mem_getD hj 0
theorem lookA_is (v : Int → Int) : ∀ (f i k : Nat) (ls : List Int), k ≤ i → i + f = ls.length → k ≤ 2 → (∀ j, j < k → v (ls.getD j 0) ≠ -1) → (∀ j, k ≤ j → j < i → v (ls.getD j 0) = -1) →
    (∀ j, j < (lookA v f i k ls).2 → v ((lookA v f i k ls).1.getD j 0) ≠ -1) ∧ ((lookA v f i k ls).2 < 2 → ∀ j, (lookA v f i k ls).2 ≤ j → j < ls.length → v ((lookA v f i k ls).1.getD j 0) = -1)
  | 0, i, k, ls, h1, h2, h3, h4, h5 => by
    simp only [lookA]
    exact ⟨h4, fun _ j hj1 hj2 => h5 j hj1 (by omega)⟩
  | f + 1, i, k, ls, h1, h2, h3, h4, h5 => by
    simp only [lookA]
    by_cases hk : k < 2
    · rw [if_pos hk]
      by_cases hv : v (ls.getD i 0) ≠ -1
      · rw [if_pos hv]
        have := lookA_is v f (i + 1) (k + 1) (swapL ls i k) (by omega) (by rw [swapL_len]; omega) (by omega) ?_ ?_
        · rw [swapL_len] at this; exact this
        · intro j hj
          rw [swap_getD (by omega) (by omega)]
          by_cases hjk : j = k
          · rw [if_pos hjk]; exact hv
          · rw [if_neg hjk]
            by_cases hji : j = i
            · omega
            · rw [if_neg hji]; exact h4 j (by omega)
        · intro j hj1 hj2
          rw [swap_getD (by omega) (by omega), if_neg (by omega)]
          by_cases hji : j = i
          · rw [if_pos hji]; exact h5 k (by omega) (by omega)
          · rw [if_neg hji]; exact h5 j (by omega) (by omega)
      · rw [if_neg hv]
        refine lookA_is v f (i + 1) k ls (by omega) (by omega) h3 h4 ?_
        intro j hj1 hj2
        by_cases hji : j = i
        · subst hji; simpa using hv
        · exact h5 j hj1 (by omega)
    · rw [if_neg hk]
      exact ⟨h4, fun h0 => absurd h0 hk⟩

structure StepO (w : Wt) (t : Tr) (id : Nat) (o : Wt × Tr × Int) : Prop where
  how : ∃ ls, ls.Perm (w id).lits ∧
    ((o = (fupd w id ⟨3, ls⟩, t, -1) ∧ 2 ≤ ls.length) ∨
     (o = (fupd w id ⟨2, ls⟩, t, (id : Int)) ∧ ∀ x ∈ ls, t.value x = -1) ∨
     (∃ u, u ∈ ls ∧ t.value u = 0 ∧ (∀ x ∈ ls, x ≠ u → t.value x = -1) ∧ o = (fupd w id ⟨2, ls⟩, t.join u id, -1)) ∨
     (∃ u, u ∈ ls ∧ t.value u = 1 ∧ o = (fupd w id ⟨2, ls⟩, t, -1)))
theorem gLook_is {w : Wt} {t : Tr} {id : Nat} (g : ClGood (w id)) : StepO w t id (gLook w t id) ∧ (((gLook w t id).1 id).st = 3 → (gLook w t id).2.1 = t ∧ t.value (((gLook w t id).1 id).lits.getD 0 0) ≠ -1 ∧ t.value (((gLook w t id).1 id).lits.getD 1 0) ≠ -1) := by
  have hp := (lookA_perm t.value (w id).lits.length 0 0 (w id).lits (by omega) (by omega)).1
  have h2 := lookA_two t.value (w id).lits.length 0 0 (w id).lits (by omega)
  have hle := lookA_le t.value (w id).lits.length 0 0 (w id).lits
  have hi := lookA_is t.value (w id).lits.length 0 0 (w id).lits (by omega) (by omega) (by omega) (by omega) (by omega)
  unfold gLook
  generalize lookA t.value (w id).lits.length 0 0 (w id).lits = r at hp h2 hle hi
  obtain ⟨ls, k⟩ := r
  dsimp only at hp h2 hle hi ⊢
  have hlen : ls.length = (w id).lits.length := hp.length_eq
  by_cases e2 : k = 2
  · rw [if_pos e2]
    refine ⟨⟨ls, hp, .inl ⟨rfl, by omega⟩⟩, fun _ => ⟨rfl, ?_, ?_⟩⟩
    · dsimp only; rw [fupd_at]; exact hi.1 0 (by omega)
    · dsimp only; rw [fupd_at]; exact hi.1 1 (by omega)
  · rw [if_neg e2]
    have hfalse := hi.2 (by omega)
    by_cases e0 : k = 0
    · rw [if_pos e0]
      refine ⟨⟨ls, hp, .inr (.inl ⟨rfl, ?_⟩)⟩, fun h0 => by dsimp only at h0; rw [fupd_at] at h0; simp at h0⟩
      intro x hx
      obtain ⟨j, hj, rfl⟩ := mem_getD_iff.1 hx
      exact hfalse j (by omega) (by omega)
    · rw [if_neg e0]
      have hne := hi.1 0 (by omega)
      have hu : ls.getD 0 0 ∈ ls := mem_getD (by omega) 0
      have hother : ∀ x ∈ ls, x ≠ ls.getD 0 0 → t.value x = -1 := by
        intro x hx hxne
        obtain ⟨j, hj, rfl⟩ := mem_getD_iff.1 hx
        refine hfalse j ?_ (by omega)
        rcases Nat.lt_or_ge j 1 with h | h
        · have : j = 0 := by omega
          subst this; exact absurd rfl hxne
        · omega
      by_cases ev : t.value (ls.getD 0 0) = 0
      · rw [if_pos ev]
        exact ⟨⟨ls, hp, .inr (.inr (.inl ⟨_, hu, ev, hother, rfl⟩))⟩, fun h0 => by dsimp only at h0; rw [fupd_at] at h0; simp at h0⟩
      · rw [if_neg ev]
        refine ⟨⟨ls, hp, .inr (.inr (.inr ⟨_, hu, ?_, rfl⟩))⟩, fun h0 => by dsimp only at h0; rw [fupd_at] at h0; simp at h0⟩
        have := val_pm t (ls.getD 0 0)
        omega

theorem seekA_some {v : Int → Int} {ls : List Int} : ∀ {n k j : Nat}, seekA v ls n k = some j → v (ls.getD j 0) ≠ -1
  | 0, k, j, h => by simp [seekA] at h
  | n + 1, k, j, h => by
    simp only [seekA] at h
    split at h
    · cases h; assumption
    · exact seekA_some h
theorem seekA_none {v : Int → Int} {ls : List Int} : ∀ {n k : Nat}, seekA v ls n k = none → ∀ j, k ≤ j → j < k + n → v (ls.getD j 0) = -1
  | 0, k, h, j, h1, h2 => by omega
  | n + 1, k, h, j, h1, h2 => by
    simp only [seekA] at h
    split at h
    · cases h
    · rename_i hv
      by_cases he : j = k
      · subst he; simpa using hv
      · exact seekA_none h j (by omega) (by omega)
theorem gVisit_is {w : Wt} {t : Tr} {id : Nat} {p : Int} (g : ClGood (w id)) (h2 : 2 ≤ (w id).lits.length) (hf : (w id).lits.getD 0 0 = -p ∨ (w id).lits.getD 1 0 = -p) (hp : t.value (-p) = -1) :
    StepO w t id (gVisit w t id p) ∧ (((gVisit w t id p).1 id).st = 3 → (gVisit w t id p).2.1 = t ∧ ∃ q, (((w id).lits.getD 0 0 = q ∧ (w id).lits.getD 1 0 = -p) ∨ ((w id).lits.getD 0 0 = -p ∧ (w id).lits.getD 1 0 = q)) ∧ ((gVisit w t id p).1 id).lits.getD 0 0 = q ∧
      ((((gVisit w t id p).1 id).lits.getD 1 0 = -p ∧ t.value q = 1 ∧ t.plcOf (goVar q) < t.plcOf (goVar p)) ∨ t.value (((gVisit w t id p).1 id).lits.getD 1 0) ≠ -1)) := by
  have hpm := visB_perm (-p) h2
  have hone := visB_one h2 hf
  have hq : (((w id).lits.getD 0 0 = (visB (w id).lits (-p)).getD 0 0 ∧ (w id).lits.getD 1 0 = -p) ∨ ((w id).lits.getD 0 0 = -p ∧ (w id).lits.getD 1 0 = (visB (w id).lits (-p)).getD 0 0)) := by
    unfold visB
    split
    · rename_i h0
      right
      refine ⟨h0, ?_⟩
      rw [swap_getD (by omega) (by omega), if_neg (by omega), if_pos rfl]
    · rename_i h0
      exact .inl ⟨rfl, hf.resolve_left h0⟩
  unfold gVisit
  generalize visB (w id).lits (-p) = ls at hpm hone hq
  dsimp only
  have hlen : ls.length = (w id).lits.length := hpm.length_eq
  by_cases hc : t.value (ls.getD 0 0) = 1 ∧ t.plcOf (goVar (ls.getD 0 0)) < t.plcOf (goVar p)
  · rw [if_pos hc]
    refine ⟨⟨ls, hpm, .inl ⟨rfl, by omega⟩⟩, fun _ => ⟨rfl, ls.getD 0 0, hq, ?_, .inl ?_⟩⟩
    · dsimp only; rw [fupd_at]
    · dsimp only; rw [fupd_at]; exact ⟨hone, hc⟩
  · rw [if_neg hc]
    cases hs : seekA t.value ls (ls.length - 2) 2 with
    | some k =>
      have hr := seekA_range hs
      have hv := seekA_some hs
      refine ⟨⟨swapL ls 1 k, (swapL_perm (by omega) (by omega)).trans hpm, .inl ⟨rfl, by rw [swapL_len]; omega⟩⟩, fun _ => ⟨rfl, ls.getD 0 0, hq, ?_, .inr ?_⟩⟩
      · dsimp only; rw [fupd_at]; dsimp only; rw [swap_getD (by omega) (by omega), if_neg (by omega), if_neg (by omega)]
      · dsimp only; rw [fupd_at]; dsimp only; rw [swap_getD (by omega) (by omega), if_neg (by omega), if_pos rfl]; exact hv
    | none =>
      have hn := seekA_none hs
      have hother : ∀ x ∈ ls, x ≠ ls.getD 0 0 → t.value x = -1 := by
        intro x hx hxne
        obtain ⟨j, hj, rfl⟩ := mem_getD_iff.1 hx
        by_cases j0 : j = 0
        · subst j0; exact absurd rfl hxne
        · by_cases j1 : j = 1
          · subst j1; rw [hone]; exact hp
          · exact hn j (by omega) (by omega)
      have hu : ls.getD 0 0 ∈ ls := mem_getD (by omega) 0
      dsimp only
      by_cases ev : t.value (ls.getD 0 0) = -1
      · rw [if_pos ev]
        refine ⟨⟨ls, hpm, .inr (.inl ⟨rfl, fun x hx => ?_⟩)⟩, fun h0 => by dsimp only at h0; rw [fupd_at] at h0; simp at h0⟩
        by_cases hx0 : x = ls.getD 0 0
        · rw [hx0]; exact ev
        · exact hother x hx hx0
      · rw [if_neg ev]
        by_cases e0 : t.value (ls.getD 0 0) = 0
        · rw [if_pos e0]
          exact ⟨⟨ls, hpm, .inr (.inr (.inl ⟨_, hu, e0, hother, rfl⟩))⟩, fun h0 => by dsimp only at h0; rw [fupd_at] at h0; simp at h0⟩
        · rw [if_neg e0]
          refine ⟨⟨ls, hpm, .inr (.inr (.inr ⟨_, hu, ?_, rfl⟩))⟩, fun h0 => by dsimp only at h0; rw [fupd_at] at h0; simp at h0⟩
          have := val_pm t (ls.getD 0 0)
          omega
end Go.Proofs.Qxb6500974aGreat
