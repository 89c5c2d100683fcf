import Derived.Test.Qxb6500974aGreatP5
set_option linter.all false
set_option linter.unusedSimpArgs false
set_option linter.unusedVariables false
namespace Go.Proofs.Qxb6500974aGreat
open Go.Eng

def gSteps : List (List Int) → List (Bool × List Int) → Option (List (List Int))
  | L, [] => some L
  | L, r :: rs => if (gTurn L r).1 = 0 then gSteps (gTurn L r).2 rs else none
theorem gSteps_append : ∀ (a b : List (Bool × List Int)) (L : List (List Int)), gSteps L (a ++ b) = (gSteps L a).bind fun L' => gSteps L' b
  | [], b, L => rfl
  | r :: a, b, L => by
    simp only [List.cons_append, gSteps]
    split
    · exact gSteps_append a b _
    · rfl
theorem gMC_steps : ∀ (a b : List (Bool × List Int)) (L L' : List (List Int)) (i : Nat), gSteps L a = some L' → gMC i L (a ++ b) = gMC (i + a.length) L' b
  | [], b, L, L', i, h => by simp only [gSteps] at h; cases h; rfl
  | r :: a, b, L, L', i, h => by
    simp only [gSteps] at h
    split at h
    · rename_i h0
      rw [List.cons_append, gMC_turn, if_neg (by simpa using h0), gMC_steps a b _ L' (i + 1) h, List.length_cons, show i + 1 + a.length = i + (a.length + 1) by omega]
    · cases h
theorem gMC_ok : ∀ (rows : List (Bool × List Int)) (L : List (List Int)) (i : Nat), (gMC i L rows).1 = 0 → ∃ L', gSteps L rows = some L' ∧ [] ∈ L'
  | [], L, i, h => by
    simp only [gMC] at h
    split at h
    · rename_i h0
      obtain ⟨l, h1, h2⟩ := List.any_eq_true.1 h0
      have : l = [] := List.length_eq_zero_iff.1 (of_decide_eq_true h2)
      subst this
      exact ⟨L, rfl, h1⟩
    · simp at h
  | r :: rows, L, i, h => by
    rw [gMC_turn] at h
    by_cases h0 : (gTurn L r).1 = 0
    · rw [if_neg (by simpa using h0)] at h
      obtain ⟨L', h1, h2⟩ := gMC_ok rows _ (i + 1) h
      exact ⟨L', by simp only [gSteps]; rw [if_pos h0]; exact h1, h2⟩
    · rw [if_pos h0] at h
      exact absurd h h0
theorem turn_add {L : List (List Int)} {l : List Int} (hL : ∀ c ∈ L, NF c) (hl : NF l) (hr : Ref L fun x => -x ∈ l) (hn : L.length < 64) : gTurn L (false, l) = (0, L ++ [l]) := by
  have := (gRup_iff hL hl).2 hr
  unfold gTurn
  rw [if_neg (by simp), if_neg (by rw [this]; simp), if_neg (by omega)]
theorem turn_del {L : List (List Int)} {l : List Int} (h : l ∈ L) : ∃ L', gTurn L (true, l) = (0, L') ∧ L.Perm (l :: L') := by
  unfold gTurn
  rw [if_pos rfl]
  cases hg : gAt l 0 L with
  | none => exact absurd h (gAt_none hg)
  | some k =>
    have := (gAt_some hg).2
    rw [Nat.sub_zero] at this
    exact ⟨L.eraseIdx k, rfl, this⟩

def Asg (M : Int → Prop) : Prop := Cons M ∧ ∀ x, goGoodLit x = true → M x ∨ M (-x)
def MSat (M : Int → Prop) (c : List Int) : Prop := ∃ x ∈ c, M x
def Imp (Q : List (List Int)) (c : List Int) : Prop := ∀ M, Asg M → (∀ q ∈ Q, MSat M q) → MSat M c
theorem imp_ref {Q L : List (List Int)} {l : List Int} (hL : ∀ c ∈ L, Imp Q c) (hg : ∀ x ∈ l, goGoodLit x = true) (hr : Ref L fun x => -x ∈ l) : Imp Q l := by
  intro M hM hQ
  refine Classical.byContradiction fun hno => hr ⟨M, hM.1, ?_, fun c hc => .inl (hL c hc M hM hQ)⟩
  intro x hx
  have hgx := hg _ hx
  rcases hM.2 _ hgx with h | h
  · exact absurd ⟨_, hx, h⟩ hno
  · rwa [Int.neg_neg] at h
theorem steps_imp {Q : List (List Int)} : ∀ (rows : List (Bool × List Int)) (L L' : List (List Int)), gSteps L rows = some L' → (∀ c ∈ L, NF c ∧ Imp Q c) → (∀ r ∈ rows, NF r.2) → ∀ c ∈ L', NF c ∧ Imp Q c
  | [], L, L', h, hL, _ => by simp only [gSteps] at h; cases h; exact hL
  | r :: rows, L, L', h, hL, hr => by
    simp only [gSteps] at h
    split at h
    · rename_i h0
      refine steps_imp rows _ L' h ?_ (fun r' hr' => hr r' (by simp [hr']))
      have hnr := hr r (by simp)
      unfold gTurn at h0 ⊢
      by_cases hd : r.1 = true
      · rw [if_pos hd] at h0 ⊢
        cases hg : gAt r.2 0 L with
        | none => rw [hg] at h0; simp at h0
        | some k =>
          intro c hc
          exact hL c (List.mem_of_mem_eraseIdx hc)
      · rw [if_neg hd] at h0 ⊢
        by_cases hru : gRup L r.2 = false
        · rw [if_pos hru] at h0; simp at h0
        · rw [if_neg hru] at h0 ⊢
          by_cases hn : 64 ≤ L.length
          · rw [if_pos hn] at h0; simp at h0
          · rw [if_neg hn]
            intro c hc
            rw [List.mem_append] at hc
            rcases hc with hc | hc
            · exact hL c hc
            · simp at hc
              subst hc
              refine ⟨hnr, imp_ref (fun c hc => (hL c hc).2) hnr.1 ?_⟩
              exact (gRup_iff (fun c hc => (hL c hc).1) hnr).1 (by simpa using hru)
    · cases h
theorem imp_self {Q : List (List Int)} (hQ : ∀ q ∈ Q, NF q) : ∀ c ∈ Q, NF c ∧ Imp Q c := fun c hc => ⟨hQ c hc, fun M _ h => h c hc⟩

def liveS (w : Wt) : Slots := fun id => if (w id).st ≠ 0 then some (nf (w id).lits) else none
def liveL (w : Wt) : List (List Int) := slotsA (liveS w) 52
theorem liveS_some {w : Wt} {id : Nat} (h : (w id).st ≠ 0) : liveS w id = some (nf (w id).lits) := by unfold liveS; rw [if_pos h]
theorem liveS_none {w : Wt} {id : Nat} (h : (w id).st = 0) : liveS w id = none := by unfold liveS; rw [if_neg (by simpa using h)]
theorem liveL_mem {w : Wt} {x : List Int} : x ∈ liveL w ↔ ∃ id, id < 52 ∧ (w id).st ≠ 0 ∧ nf (w id).lits = x := by
  unfold liveL
  rw [slots_mem]
  constructor
  · rintro ⟨s, h1, h2⟩
    by_cases h0 : (w s).st ≠ 0
    · rw [liveS_some h0] at h2; cases h2; exact ⟨s, h1, h0, rfl⟩
    · rw [liveS_none (by simpa using h0)] at h2; cases h2
  · rintro ⟨s, h1, h2, rfl⟩
    exact ⟨s, h1, liveS_some h2⟩
theorem liveL_NF {w : Wt} (g : WGood w) : ∀ c ∈ liveL w, NF c := by
  intro c hc
  obtain ⟨id, _, _, rfl⟩ := liveL_mem.1 hc
  exact nf_NF (g.cl id).good
theorem liveL_cov {w : Wt} (g : WGood w) {L : List (List Int)} (h : ∀ x ∈ liveL w, x ∈ L) : Cov w L := by
  intro id hst
  have hid : id < 52 := by
    rcases Nat.lt_or_ge id 52 with h | h
    · exact h
    · exact absurd (g.out id h) hst
  exact ⟨nf (w id).lits, h _ (liveL_mem.2 ⟨id, hid, hst, rfl⟩), fun x => mem_nf (g.cl id).good (g.cl id).vars x⟩
theorem liveS_same {w w' : Wt} (g : WGood w) (h : Same w w') : liveS w' = liveS w := by
  funext id
  by_cases h0 : (w id).st = 0
  · rw [liveS_none h0, liveS_none ((h id).1.2 h0)]
  · rw [liveS_some h0, liveS_some (fun h1 => h0 ((h id).1.1 h1))]
    have gc := g.cl id
    rw [nf_of_perm (nf_NF gc.good) ((h id).2.trans (nf_perm gc.good gc.vars).symm)]
theorem liveS_drop {w : Wt} {id : Nat} : liveS (fupd w id ⟨0, []⟩) = fupd (liveS w) id none := by
  funext j
  by_cases h : j = id
  · subst h; rw [fupd_at]; exact liveS_none (by rw [fupd_at])
  · rw [fupd_ne _ _ h]; unfold liveS; rw [fupd_ne _ _ h]
theorem nf_self {l : List Int} (h : NF l) : nf l = l := nf_of_perm h (List.Perm.refl _)
theorem liveS_add {w : Wt} {id : Nat} {l : List Int} (h : NF l) : liveS (fupd w id ⟨1, l⟩) = fupd (liveS w) id (some l) := by
  funext j
  by_cases hj : j = id
  · subst hj
    rw [fupd_at]
    have := liveS_some (w := fupd w j ⟨1, l⟩) (id := j) (by rw [fupd_at]; simp)
    rw [this, fupd_at]
    dsimp only
    rw [nf_self h]
  · rw [fupd_ne _ _ hj]; unfold liveS; rw [fupd_ne _ _ hj]

def adds (rows : List (Bool × List Int)) : Nat := (rows.filter fun r => !r.1).length
structure LogI (Q : List (List Int)) (log : List Int) (L0 : List (List Int)) (n : Nat) : Prop where
  ex : ∃ rows L, log = flatOf rows ∧ (∀ r ∈ rows, NF r.2 ∧ r.2 ≠ []) ∧ gSteps Q rows = some L ∧ L.Perm L0 ∧ adds rows = n
theorem flatOf_append (X Y : List (Bool × List Int)) : flatOf (X ++ Y) = flatOf X ++ flatOf Y := by
  induction X with
  | nil => rfl
  | cons x xs ih => simp [flatOf, ih]
theorem note_add {rows : List (Bool × List Int)} {c : List Int} : gNote false c (flatOf rows) = flatOf (rows ++ [(false, c)]) := by
  rw [flatOf_append]; simp [gNote, flatOf]
theorem note_del {rows : List (Bool × List Int)} {c : List Int} : gNote true c (flatOf rows) = flatOf (rows ++ [(true, c)]) := by
  rw [flatOf_append]; simp [gNote, flatOf]
theorem LogI.add {Q : List (List Int)} {log : List Int} {L0 : List (List Int)} {n : Nat} {l : List Int} (h : LogI Q log L0 n) (hL : ∀ c ∈ L0, NF c) (hl : NF l) (hne : l ≠ []) (hr : Ref L0 fun x => -x ∈ l) (hn : L0.length < 64) : LogI Q (gNote false l log) (l :: L0) (n + 1) := by
  obtain ⟨rows, L, rfl, h2, h3, h4, h5⟩ := h
  have ht := turn_add (L := L) (l := l) (fun c hc => hL c (h4.mem_iff.1 hc)) hl (hr.mono (fun c hc => h4.mem_iff.2 hc) (fun _ h => h)) (by rw [h4.length_eq]; exact hn)
  refine ⟨rows ++ [(false, l)], L ++ [l], note_add, ?_, ?_, (List.perm_append_singleton l L).trans (h4.cons l), ?_⟩
  · intro r hr2
    rw [List.mem_append] at hr2
    rcases hr2 with hr2 | hr2
    · exact h2 r hr2
    · simp at hr2; subst hr2; exact ⟨hl, hne⟩
  · rw [gSteps_append, h3]
    simp only [Option.bind_some, gSteps, ht]
    simp
  · unfold adds at h5 ⊢
    rw [List.filter_append]; simp [h5]
theorem LogI.del {Q : List (List Int)} {log : List Int} {L0 : List (List Int)} {n : Nat} {c : List Int} (h : LogI Q log (c :: L0) n) (hc : NF c) (hne : c ≠ []) : LogI Q (gNote true c log) L0 n := by
  obtain ⟨rows, L, rfl, h2, h3, h4, h5⟩ := h
  obtain ⟨L', ht, hp⟩ := turn_del (L := L) (l := c) (h4.mem_iff.2 (by simp))
  refine ⟨rows ++ [(true, c)], L', note_del, ?_, ?_, (List.perm_cons c).1 (hp.symm.trans h4), ?_⟩
  · intro r hr2
    rw [List.mem_append] at hr2
    rcases hr2 with hr2 | hr2
    · exact h2 r hr2
    · simp at hr2; subst hr2; exact ⟨hc, hne⟩
  · rw [gSteps_append, h3]
    simp only [Option.bind_some, gSteps, ht]
    simp
  · unfold adds at h5 ⊢
    rw [List.filter_append]; simp [h5]
theorem LogI.perm {Q : List (List Int)} {log : List Int} {L0 L1 : List (List Int)} {n : Nat} (h : LogI Q log L0 n) (hp : L0.Perm L1) : LogI Q log L1 n := by
  obtain ⟨rows, L, h1, h2, h3, h4, h5⟩ := h
  exact ⟨rows, L, h1, h2, h3, h4.trans hp, h5⟩

structure FI (Q : List (List Int)) (l : List Int) (n : Nat) (σ : St) : Prop where
  pi : PI σ.w σ.t σ.t.cur
  alive : ∀ k, k < 12 → (σ.alive k = true ↔ (σ.w (40 + k)).st ≠ 0)
  high : ∀ k, 12 ≤ k → σ.alive k = false
  count : σ.count = cntB σ.alive 12
  ne : ∀ id, 40 ≤ id → (σ.w id).st ≠ 0 → (σ.w id).lits ≠ []
  lg : LogI Q σ.log (l :: liveL σ.w) n
theorem RInv.drop {w : Wt} {t : Tr} {id : Nat} (h : RInv w t) (hl : ∀ e ∈ t.es, e.rsn ≠ (id : Int)) : RInv (fupd w id ⟨0, []⟩) t := by
  intro i e he
  rcases h i e he with h1 | ⟨r, h1, h2, h3, h4, h5, h6⟩
  · exact .inl h1
  · have hne : r ≠ id := by
      intro h0
      subst h0
      exact hl e (List.mem_of_getElem? he) h1
    exact .inr ⟨r, h1, h2, by rw [fupd_ne _ _ hne]; exact h3, by rw [fupd_ne _ _ hne]; exact h4, h5, by rw [fupd_ne _ _ hne]; exact h6⟩
theorem not_locked {w : Wt} {t : Tr} {id : Nat} (hpi : PI w t t.cur) (hl : lockedA t id (w id).lits = false) : ∀ e ∈ t.es, e.rsn ≠ (id : Int) := by
  intro e he h0
  obtain ⟨i, hi, rfl⟩ := List.mem_iff_getElem.1 he
  have hie : t.es[i]? = some t.es[i] := List.getElem?_eq_getElem hi
  rcases hpi.rs i _ hie with ⟨h1, _⟩ | ⟨r, h1, h2, h3, h4, h5, h6⟩
  · omega
  · have hr : r = id := by omega
    subst hr
    have : lockedA t r (w r).lits = true := by
      unfold lockedA
      refine List.any_eq_true.2 ⟨_, h4, ?_⟩
      have hg := hpi.tg.lits _ he
      have hv := (val_one hpi.tg hg).2 ⟨_, he, rfl⟩
      have hr2 := (levOf_ent hpi.tg he rfl).2
      simp [hv, hr2, h1]
    rw [hl] at this
    cases this
theorem PI.drop {w : Wt} {t : Tr} {id : Nat} (h : PI w t t.cur) (hid : id < 52) (hl : lockedA t id (w id).lits = false) : PI (fupd w id ⟨0, []⟩) t t.cur := by
  refine ⟨h.wg.turn hid ⟨by simp, fun _ => rfl, by simp, by simp, by simp⟩, h.tg, h.rs.drop (not_locked h hl), fun j hj => ?_⟩
  by_cases he : j = id
  · subst he; rw [fupd_at] at hj; simp at hj
  · rw [fupd_ne _ _ he] at hj ⊢; exact h.hd j hj
theorem nf_nil {c : Cl} (g : ClGood c) (h : c.lits ≠ []) : nf c.lits ≠ [] := by
  intro h0
  have := (nf_perm g.good g.vars).length_eq
  rw [h0] at this
  exact h (List.length_eq_zero_iff.1 this.symm)
theorem FI.drop {Q : List (List Int)} {l : List Int} {n k : Nat} {σ : St} (h : FI Q l n σ) (hk : k < 12) (ha : σ.alive k = true) (hl : lockedA σ.t (40 + k) (σ.w (40 + k)).lits = false) : FI Q l n (gDrop σ k) := by
  have hst := (h.alive k hk).1 ha
  have gc := h.pi.wg.cl (40 + k)
  refine ⟨h.pi.drop (by omega) hl, ?_, ?_, ?_, ?_, ?_⟩
  · intro j hj
    dsimp only [gDrop]
    by_cases he : j = k
    · subst he; rw [fupd_at, fupd_at]; simp
    · rw [fupd_ne _ _ he, fupd_ne _ _ (by omega)]; exact h.alive j hj
  · intro j hj
    dsimp only [gDrop]
    rw [fupd_ne _ _ (by omega)]; exact h.high j hj
  · dsimp only [gDrop]
    have : cntB σ.alive 12 = cntB (fupd σ.alive k false) 12 + 1 := cntB_set (j := k) (fupd_at _ _ _) ha (fun i hi => fupd_ne _ _ hi) 12 hk
    have := h.count
    omega
  · intro id hid hst2
    dsimp only [gDrop] at hst2 ⊢
    by_cases he : id = 40 + k
    · subst he; rw [fupd_at] at hst2; simp at hst2
    · rw [fupd_ne _ _ he] at hst2 ⊢; exact h.ne id hid hst2
  · have hp : (liveL σ.w).Perm (nf (σ.w (40 + k)).lits :: liveL (fupd σ.w (40 + k) ⟨0, []⟩)) := by
      unfold liveL
      rw [liveS_drop]
      exact slots_drop (liveS_some hst) (by omega)
    have h2 : LogI Q σ.log (nf (σ.w (40 + k)).lits :: l :: liveL (fupd σ.w (40 + k) ⟨0, []⟩)) n := h.lg.perm ((hp.cons l).trans (List.Perm.swap _ _ _))
    exact h2.del (nf_NF gc.good) (nf_nil gc (h.ne _ (by omega) hst))

structure Kept (σ σ' : St) : Prop where
  w : ∀ id, id < 40 → σ'.w id = σ.w id
  sub : ∀ id, (σ'.w id).st ≠ 0 → σ'.w id = σ.w id
  log : σ'.log.length + 14 * σ'.count ≤ σ.log.length + 14 * σ.count
theorem Kept.refl (σ : St) : Kept σ σ := ⟨fun _ _ => rfl, fun _ _ => rfl, Nat.le_refl _⟩
theorem Kept.trans {a b c : St} (h : Kept a b) (k : Kept b c) : Kept a c := by
  refine ⟨fun id hid => (k.w id hid).trans (h.w id hid), fun id hst => ?_, Nat.le_trans k.log h.log⟩
  have e := k.sub id hst
  rw [e] at hst ⊢
  exact h.sub id hst
theorem Kept.drop {Q : List (List Int)} {l : List Int} {n k : Nat} {σ : St} (h : FI Q l n σ) (hk : k < 12) (ha : σ.alive k = true) : Kept σ (gDrop σ k) := by
  refine ⟨fun id hid => fupd_ne _ _ (by omega), fun id hst => ?_, ?_⟩
  · dsimp only [gDrop] at hst ⊢
    by_cases he : id = 40 + k
    · subst he; rw [fupd_at] at hst; simp at hst
    · exact fupd_ne _ _ he
  · dsimp only [gDrop, gNote]
    have hnl : (nf (σ.w (40 + k)).lits).length ≤ 12 := (nf_NF (h.pi.wg.cl _).good).len
    have hc : 0 < cntB σ.alive 12 := cntB_pos' hk ha
    have := h.count
    simp
    omega
theorem gForgetA_is {Q : List (List Int)} {l : List Int} {n : Nat} : ∀ (f k : Nat) (σ : St), k + f = 12 → FI Q l n σ → (∀ j, j < k → σ.alive j = true → lockedA σ.t (40 + j) (σ.w (40 + j)).lits = true) →
    FI Q l n (gForgetA f k σ) ∧ Kept σ (gForgetA f k σ) ∧ ((gForgetA f k σ).count ≤ 2 ∨ ∀ j, j < 12 → (gForgetA f k σ).alive j = true → lockedA σ.t (40 + j) ((gForgetA f k σ).w (40 + j)).lits = true)
  | 0, k, σ, hk, h, hl => by
    simp only [gForgetA]
    exact ⟨h, Kept.refl σ, .inr fun j hj ha => hl j (by omega) ha⟩
  | f + 1, k, σ, hk, h, hl => by
    simp only [gForgetA]
    by_cases hc : σ.count > 2
    · rw [if_pos hc]
      by_cases ha : σ.alive k = true
      · rw [if_pos ha]
        by_cases hlk : lockedA σ.t (40 + k) (σ.w (40 + k)).lits = true
        · rw [if_pos hlk]
          refine gForgetA_is f (k + 1) σ (by omega) h fun j hj hja => ?_
          by_cases he : j = k
          · subst he; exact hlk
          · exact hl j (by omega) hja
        · rw [if_neg hlk]
          have hd := h.drop (by omega) ha (Bool.eq_false_iff.2 hlk)
          have hkp := Kept.drop h (by omega) ha
          have ih := gForgetA_is f (k + 1) (gDrop σ k) (by omega) hd (fun j hj hja => by
            dsimp only [gDrop] at hja ⊢
            by_cases he : j = k
            · subst he; rw [fupd_at] at hja; cases hja
            · rw [fupd_ne _ _ he] at hja
              rw [fupd_ne _ _ (by omega)]
              exact hl j (by omega) hja)
          exact ⟨ih.1, hkp.trans ih.2.1, ih.2.2⟩
      · rw [if_neg ha]
        refine gForgetA_is f (k + 1) σ (by omega) h fun j hj hja => ?_
        by_cases he : j = k
        · subst he; exact absurd hja ha
        · exact hl j (by omega) hja
    · rw [if_neg hc]
      exact ⟨h, Kept.refl σ, .inl (by omega)⟩
theorem inj_len {f : Nat → Int} (hf : ∀ i j, f i = f j → i = j) : ∀ (n : Nat) (l : List Int), (∀ j, j < n → f j ∈ l) → n ≤ l.length
  | 0, _, _ => Nat.zero_le _
  | n + 1, l, h => by
    have hm := h n (by omega)
    have := inj_len hf n (l.erase (f n)) (fun j hj => by
      rw [List.mem_erase_of_ne]
      · exact h j (by omega)
      · intro h0; have := hf _ _ h0; omega)
    rw [List.length_erase_of_mem hm] at this
    have : 0 < l.length := List.length_pos_of_mem hm
    omega
theorem gForget_is {Q : List (List Int)} {l : List Int} {n : Nat} {σ : St} (h : FI Q l n σ) (hlen : σ.t.es.length ≤ 11) : FI Q l n (gForget σ) ∧ Kept σ (gForget σ) ∧ ∃ k, k < 12 ∧ ((gForget σ).w (40 + k)).st = 0 := by
  have room : ∀ σ' : St, FI Q l n σ' → (∃ k, k < 12 ∧ σ'.alive k = false) → ∃ k, k < 12 ∧ (σ'.w (40 + k)).st = 0 := by
    rintro σ' h' ⟨k, hk, ha⟩
    refine ⟨k, hk, ?_⟩
    refine Classical.byContradiction fun h0 => ?_
    rw [(h'.alive k hk).2 h0] at ha
    cases ha
  have some_dead : ∀ σ' : St, σ'.count = cntB σ'.alive 12 → σ'.count ≤ 11 → ∃ k, k < 12 ∧ σ'.alive k = false := by
    intro σ' hc hle
    refine Classical.byContradiction fun h0 => ?_
    have hall : ∀ k, k < 12 → σ'.alive k = true := fun k hk => by
      cases hA : σ'.alive k with
      | true => rfl
      | false => exact absurd ⟨k, hk, hA⟩ h0
    have : cntB σ'.alive 12 = cntB (fun _ => true) 12 := cntB_congr 12 fun i hi => hall i hi
    have e : cntB (fun _ => true) 12 = 12 := rfl
    omega
  unfold gForget
  by_cases hc : σ.count < 4
  · rw [if_pos hc]
    exact ⟨h, Kept.refl σ, room σ h (some_dead σ h.count (by omega))⟩
  · rw [if_neg hc]
    have hf := gForgetA_is 12 0 σ (by omega) h (fun j hj => by omega)
    refine ⟨hf.1, hf.2.1, room _ hf.1 ?_⟩
    rcases hf.2.2 with h2 | h2
    · exact some_dead _ hf.1.count (by omega)
    · refine Classical.byContradiction fun h0 => ?_
      have hall : ∀ k, k < 12 → (gForgetA 12 0 σ).alive k = true := fun k hk => by
        cases hA : (gForgetA 12 0 σ).alive k with
        | true => rfl
        | false => exact absurd ⟨k, hk, hA⟩ h0
      have := inj_len (f := fun j => ((40 + j : Nat) : Int)) (fun i j h => by have h' : ((40 + i : Nat) : Int) = ((40 + j : Nat) : Int) := h; omega) 12 (σ.t.es.map Ent.rsn) (fun j hj => by
        have hlk := h2 j hj (hall j hj)
        unfold lockedA at hlk
        obtain ⟨x, hx, hp⟩ := List.any_eq_true.1 hlk
        simp only [Bool.and_eq_true, decide_eq_true_eq] at hp
        have hgx := (hf.1.pi.wg.cl (40 + j)).good x hx
        obtain ⟨e, he, hel⟩ := (val_one h.pi.tg hgx).1 hp.1
        have hr := (levOf_ent h.pi.tg he (x := x) (by rw [hel])).2
        rw [hp.2] at hr
        exact List.mem_map.2 ⟨e, he, hr.symm⟩)
      rw [List.length_map] at this
      omega
theorem gRoomA_first {w : Wt} : ∀ (n k : Nat), (∃ j, k ≤ j ∧ j < k + n ∧ (w j).st = 0) → ∃ id : Nat, gRoomA w n k = id ∧ k ≤ id ∧ id < k + n ∧ (w id).st = 0
  | 0, k, h => by obtain ⟨j, h1, h2, _⟩ := h; omega
  | n + 1, k, h => by
    simp only [gRoomA]
    by_cases h0 : (w k).st = 0
    · rw [if_pos h0]; exact ⟨k, rfl, by omega, by omega, h0⟩
    · rw [if_neg h0]
      obtain ⟨j, h1, h2, h3⟩ := h
      have hj : j ≠ k := fun he => by subst he; exact h0 h3
      obtain ⟨id, a, b, c, d⟩ := gRoomA_first n (k + 1) ⟨j, by omega, by omega, h3⟩
      exact ⟨id, a, by omega, by omega, d⟩
end Go.Proofs.Qxb6500974aGreat
