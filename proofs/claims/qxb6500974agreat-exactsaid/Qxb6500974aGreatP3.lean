import Derived.Test.Qxb6500974aGreatP2
set_option linter.all false
set_option linter.unusedSimpArgs false
set_option linter.unusedVariables false
namespace Go.Proofs.Qxb6500974aGreat
open Go.Eng

structure PI (w : Wt) (t : Tr) (cur : Nat) : Prop where
  wg : WGood w
  tg : t.Good
  rs : RInv w t
  hd : ∀ id, (w id).st = 3 → Hold t cur ((w id).lits.getD 0 0) ((w id).lits.getD 1 0) ∧ Hold t cur ((w id).lits.getD 1 0) ((w id).lits.getD 0 0)
structure Up (t t' : Tr) : Prop where
  hold : ∀ a o cur, cur ≤ t.es.length → Hold t cur a o → Hold t' cur a o
  tr : ∀ x, t.tr x → t'.tr x
  pl : ∀ i x, t.pl i x → t'.pl i x
  ext : t.Ext t'
theorem Up.refl (t : Tr) : Up t t := ⟨fun _ _ _ _ h => h, fun _ h => h, fun _ _ h => h, Tr.Ext.refl t⟩
theorem Up.trans {a b c : Tr} (h : Up a b) (k : Up b c) : Up a c :=
  ⟨fun x o cur hc hh => k.hold x o cur (Nat.le_trans hc h.ext.len) (h.hold x o cur hc hh), fun x hx => k.tr x (h.tr x hx), fun i x hx => k.pl i x (h.pl i x hx), h.ext.trans k.ext⟩
theorem Up.join (t : Tr) (l r : Int) : Up t (t.join l r) := ⟨fun _ _ _ hc h => h.join hc, fun _ h => tr_snoc.2 (.inl h), fun _ _ h => pl_snoc.2 (.inl h), Tr.Ext.join t l r⟩
structure StepR (w : Wt) (t : Tr) (id : Nat) (o : Wt × Tr × Int) : Prop where
  wg : WGood o.1
  tg : o.2.1.Good
  rs : RInv o.1 o.2.1
  same : Same w o.1
  up : Up t o.2.1
  ne : ∀ j, j ≠ id → o.1 j = w j
  conf : 0 ≤ o.2.2 → o.2.2 = id ∧ o.2.1 = t ∧ (o.1 id).st = 2 ∧ ∀ x ∈ (o.1 id).lits, t.value x = -1
  sat : o.2.2 < 0 → (o.1 id).st = 3 ∨ ((o.1 id).st = 2 ∧ ∃ u ∈ (o.1 id).lits, o.2.1.tr u)
theorem clGood_perm {c : Cl} (g : ClGood c) {st : Nat} {ls : List Int} (hp : ls.Perm c.lits) (hs : st = 2 ∨ (st = 3 ∧ 2 ≤ ls.length)) : ClGood ⟨st, ls⟩ := by
  refine ⟨by dsimp only; omega, by dsimp only; omega, fun x hx => g.good x (hp.mem_iff.1 hx), (hp.pairwise_iff (fun h => h.symm)).2 g.vars, by dsimp only; omega⟩
theorem StepO.ok {w : Wt} {t : Tr} {id : Nat} {o : Wt × Tr × Int} (h : StepO w t id o) (wg : WGood w) (tg : t.Good) (rs : RInv w t) (hid : id < 52) (hst : (w id).st ≠ 0) : StepR w t id o := by
  obtain ⟨ls, hp, hc⟩ := h.how
  have gcl := wg.cl id
  have ggood : ∀ x ∈ ls, goGoodLit x = true := fun x hx => gcl.good x (hp.mem_iff.1 hx)
  rcases hc with ⟨rfl, h2⟩ | ⟨rfl, hall⟩ | ⟨u, hu, hu0, hoth, rfl⟩ | ⟨u, hu, hu1, rfl⟩
  · have hs := Same.upd (w := w) (id := id) (st := 3) hst (by omega) hp
    exact ⟨wg.turn hid (clGood_perm gcl hp (.inr ⟨rfl, h2⟩)), tg, rs.same hs, hs, Up.refl t, fun j hj => fupd_ne _ _ hj, fun h0 => by simp at h0, fun _ => .inl (by dsimp only; rw [fupd_at])⟩
  · have hs := Same.upd (w := w) (id := id) (st := 2) hst (by omega) hp
    refine ⟨wg.turn hid (clGood_perm gcl hp (.inl rfl)), tg, rs.same hs, hs, Up.refl t, fun j hj => fupd_ne _ _ hj, fun _ => ⟨rfl, rfl, by dsimp only; rw [fupd_at], by dsimp only; rw [fupd_at]; exact hall⟩, fun h0 => ?_⟩
    dsimp only at h0; omega
  · have hs := Same.upd (w := w) (id := id) (st := 2) hst (by omega) hp
    have hgu := ggood u hu
    have hopen := value_open hgu hu0
    have hg := good_abs hgu
    have tg' : (t.join u id).Good := tg.join hgu hopen (tg.room (by omega) hopen)
    refine ⟨wg.turn hid (clGood_perm gcl hp (.inl rfl)), tg', ?_, hs, Up.join t u id, fun j hj => fupd_ne _ _ hj, fun h0 => by simp at h0, fun _ => .inr ⟨by dsimp only; rw [fupd_at], u, by dsimp only; rw [fupd_at]; exact hu, tr_snoc.2 (.inr rfl)⟩⟩
    refine (rs.same hs).join tg hid (by rw [fupd_at]; simp) (by rw [fupd_at]; exact hu) ?_
    rw [fupd_at]
    intro x hx hne
    exact (val_m1 tg (ggood x hx)).1 (hoth x hx hne)
  · have hs := Same.upd (w := w) (id := id) (st := 2) hst (by omega) hp
    refine ⟨wg.turn hid (clGood_perm gcl hp (.inl rfl)), tg, rs.same hs, hs, Up.refl t, fun j hj => fupd_ne _ _ hj, fun h0 => by simp at h0, fun _ => .inr ⟨by dsimp only; rw [fupd_at], u, by dsimp only; rw [fupd_at]; exact hu, (val_one tg (ggood u hu)).1 hu1⟩⟩
def ConfOK (o : Wt × Tr × Int) : Prop := ∃ c : Nat, o.2.2 = c ∧ c < 52 ∧ (o.1 c).st ≠ 0 ∧ ∀ x ∈ (o.1 c).lits, o.2.1.value x = -1

def Awake (w : Wt) (t : Tr) (j : Nat) : Prop := (w j).st ≠ 1 ∧ ((w j).st = 2 → ∃ u ∈ (w j).lits, t.tr u)
theorem Awake.up {w w' : Wt} {t t' : Tr} {j : Nat} (h : Awake w t j) (he : w' j = w j) (hu : Up t t') : Awake w' t' j := by
  unfold Awake at h ⊢
  rw [he]
  exact ⟨h.1, fun h2 => by obtain ⟨u, h3, h4⟩ := h.2 h2; exact ⟨u, h3, hu.tr u h4⟩⟩
theorem StepR.awake {w : Wt} {t : Tr} {id : Nat} {o : Wt × Tr × Int} (h : StepR w t id o) (hc : o.2.2 < 0) : Awake o.1 o.2.1 id := by
  rcases h.sat hc with h3 | ⟨h3, h4⟩
  · exact ⟨by omega, fun h0 => by omega⟩
  · exact ⟨by omega, fun _ => h4⟩
theorem not_tr_neg {t : Tr} (g : t.Good) {x : Int} (hx : goGoodLit x = true) (h : t.value x ≠ -1) : ¬ t.tr (-x) := fun h0 => h ((val_m1 g hx).2 h0)
theorem gWakeA_is (w0 : Wt) : ∀ (n id : Nat) (w : Wt) (t : Tr), id + n = 52 → PI w t t.cur → (∀ j, id ≤ j → w j = w0 j) → (∀ j, j < id → Awake w t j) →
    PI (gWakeA w0 n id w t).1 (gWakeA w0 n id w t).2.1 (gWakeA w0 n id w t).2.1.cur ∧ Same w (gWakeA w0 n id w t).1 ∧ Up t (gWakeA w0 n id w t).2.1 ∧ (0 ≤ (gWakeA w0 n id w t).2.2 → ConfOK (gWakeA w0 n id w t)) ∧ ((gWakeA w0 n id w t).2.2 < 0 → ∀ j, Awake (gWakeA w0 n id w t).1 (gWakeA w0 n id w t).2.1 j)
  | 0, id, w, t, hn, hpi, hsame, haw => by
    simp only [gWakeA]
    refine ⟨hpi, Same.refl w, Up.refl t, fun h0 => by simp at h0, fun _ j => ?_⟩
    rcases Nat.lt_or_ge j id with h | h
    · exact haw j h
    · have := hpi.wg.out j (by omega)
      exact ⟨by omega, fun h0 => by omega⟩
  | n + 1, id, w, t, hn, hpi, hsame, haw => by
    simp only [gWakeA]
    have hs := hsame id (Nat.le_refl _)
    by_cases hst : (w0 id).st = 1 ∨ (w0 id).st = 2
    · rw [if_pos hst]
      have hl := gLook_is (t := t) (hpi.wg.cl id)
      have hr := hl.1.ok hpi.wg hpi.tg hpi.rs (by omega) (by rw [hs]; omega)
      have h3 := hl.2
      generalize gLook w t id = o at hr h3 ⊢
      obtain ⟨w', t', c⟩ := o
      dsimp only at hr h3 ⊢
      have hcur : t'.cur = t.cur := hr.up.ext.1
      have hpi' : PI w' t' t'.cur := by
        refine ⟨hr.wg, hr.tg, hr.rs, fun j hj => ?_⟩
        rw [hcur]
        by_cases he : j = id
        · subst he
          obtain ⟨e, a, b⟩ := h3 hj
          subst e
          have h2 : 2 ≤ (w' j).lits.length := (hr.wg.cl j).two hj
          have g0 := (hr.wg.cl j).good _ (mem_getD (show 0 < ((w' j).lits).length by omega) 0)
          have g1 := (hr.wg.cl j).good _ (mem_getD (show 1 < ((w' j).lits).length by omega) 0)
          exact ⟨.inl (not_tr_neg hpi.tg g0 a), .inl (not_tr_neg hpi.tg g1 b)⟩
        · have e := hr.ne j he
          dsimp only at e
          rw [e] at hj ⊢
          have := hpi.hd j hj
          have hc := hpi.tg.cur
          exact ⟨hr.up.hold _ _ _ hc this.1, hr.up.hold _ _ _ hc this.2⟩
      by_cases hc : c ≥ 0
      · rw [if_pos hc]
        refine ⟨hpi', hr.same, hr.up, fun _ => ?_, fun h0 => by dsimp only at h0; omega⟩
        obtain ⟨c1, c2, c3, c4⟩ := hr.conf hc
        refine ⟨id, c1, by omega, ?_, ?_⟩
        · dsimp only at c3 ⊢; omega
        · dsimp only at c2 c4 ⊢; rw [c2]; exact c4
      · rw [if_neg hc]
        have ih := gWakeA_is w0 n (id + 1) w' t' (by omega) hpi' (fun j hj => (hr.ne j (by omega)).trans (hsame j (by omega))) (by
          intro j hj
          by_cases he : j = id
          · subst he; exact hr.awake (by dsimp only; omega)
          · exact (haw j (by omega)).up (hr.ne j he) hr.up)
        exact ⟨ih.1, hr.same.trans ih.2.1, hr.up.trans ih.2.2.1, ih.2.2.2.1, ih.2.2.2.2⟩
    · rw [if_neg hst]
      refine gWakeA_is w0 n (id + 1) w t (by omega) hpi (fun j hj => hsame j (by omega)) (fun j hj => ?_)
      by_cases he : j = id
      · subst he
        unfold Awake
        rw [hs]
        exact ⟨fun h0 => hst (.inl h0), fun h0 => absurd (.inr h0) hst⟩
      · exact haw j (by omega)
theorem Hold.next {t : Tr} {cur : Nat} {a o p : Int} (h : Hold t cur a o) (hp : t.pl cur p) (hne : a ≠ -p) : Hold t (cur + 1) a o := by
  rcases h with h | ⟨i, h1, h2⟩
  · exact .inl h
  · refine .inr ⟨i, h1, h2.orMap (fun h => ?_) id⟩
    by_cases he : i = cur
    · subst he
      obtain ⟨e, he1, he2⟩ := h1
      obtain ⟨f, hf1, hf2⟩ := hp
      rw [he1] at hf1
      cases hf1
      exact absurd (by omega) hne
    · omega
theorem gThroughA_is (w0 : Wt) (p : Int) (cur : Nat) (hgp : goGoodLit p = true) : ∀ (n id : Nat) (w : Wt) (t : Tr), id + n = 52 → t.cur = cur → t.pl cur p → PI w t cur → (∀ j, Awake w t j) → (∀ j, id ≤ j → w j = w0 j) →
    (∀ j, j < id → (w j).st = 3 → Hold t (cur + 1) ((w j).lits.getD 0 0) ((w j).lits.getD 1 0) ∧ Hold t (cur + 1) ((w j).lits.getD 1 0) ((w j).lits.getD 0 0)) →
    PI (gThroughA w0 p n id w t).1 (gThroughA w0 p n id w t).2.1 cur ∧ Same w (gThroughA w0 p n id w t).1 ∧ Up t (gThroughA w0 p n id w t).2.1 ∧ (0 ≤ (gThroughA w0 p n id w t).2.2 → ConfOK (gThroughA w0 p n id w t)) ∧
    ((gThroughA w0 p n id w t).2.2 < 0 → PI (gThroughA w0 p n id w t).1 (gThroughA w0 p n id w t).2.1 (cur + 1) ∧ ∀ j, Awake (gThroughA w0 p n id w t).1 (gThroughA w0 p n id w t).2.1 j)
  | 0, id, w, t, hn, hcur, hpl, hpi, haw, hsame, hdone => by
    simp only [gThroughA]
    refine ⟨hpi, Same.refl w, Up.refl t, fun h0 => by simp at h0, fun _ => ⟨⟨hpi.wg, hpi.tg, hpi.rs, fun j hj => ?_⟩, haw⟩⟩
    rcases Nat.lt_or_ge j id with h | h
    · exact hdone j h hj
    · have := hpi.wg.out j (by omega); omega
  | n + 1, id, w, t, hn, hcur, hpl, hpi, haw, hsame, hdone => by
    simp only [gThroughA]
    have hs := hsame id (Nat.le_refl _)
    have gcl := hpi.wg.cl id
    have hpn := good_neg hgp
    by_cases hwat : watches (w0 id) (goCode (-p)).toNat = true
    · rw [if_pos hwat]
      rw [← hs] at hwat
      obtain ⟨hst, hor⟩ := watches_of gcl hpn hwat
      have h2 := gcl.two hst
      have hvp : t.value (-p) = -1 := (val_m1 hpi.tg hpn).2 (by rw [Int.neg_neg]; exact tr_pl.2 ⟨cur, hpl⟩)
      have hl := gVisit_is (t := t) gcl h2 hor hvp
      have hr := hl.1.ok hpi.wg hpi.tg hpi.rs (by omega) (by omega)
      have h3 := hl.2
      have hold0 := hpi.hd id hst
      have g0 := gcl.good _ (mem_getD (show 0 < ((w id).lits).length by omega) 0)
      have g1 := gcl.good _ (mem_getD (show 1 < ((w id).lits).length by omega) 0)
      have hv01 : ((w id).lits.getD 0 0).natAbs ≠ ((w id).lits.getD 1 0).natAbs := by
        have := gcl.vars
        rw [List.pairwise_iff_getElem] at this
        have h9 := this 0 1 (by omega) (by omega) (by omega)
        have a1 : (w id).lits.getD 1 0 = (w id).lits[1] := by simp [List.getD, show 1 < (w id).lits.length by omega]
        have a2 : (w id).lits.getD 0 0 = (w id).lits[0] := by simp [List.getD, show 0 < (w id).lits.length by omega]
        rw [a1, a2]; exact h9
      generalize gVisit w t id p = o at hr h3 ⊢
      obtain ⟨w', t', c⟩ := o
      dsimp only at hr h3 ⊢
      have hcur' : t'.cur = cur := hr.up.ext.1.trans hcur
      have hcl : cur ≤ t.es.length := by have := pl_lt hpl; omega
      have hnew : (w' id).st = 3 → Hold t' (cur + 1) ((w' id).lits.getD 0 0) ((w' id).lits.getD 1 0) ∧ Hold t' (cur + 1) ((w' id).lits.getD 1 0) ((w' id).lits.getD 0 0) := by
        intro h33
        obtain ⟨e, q, hq, hq0, hcase⟩ := h3 h33
        subst e
        have hgq : goGoodLit q = true := by
          rcases hq with ⟨h, _⟩ | ⟨_, h⟩
          · rw [← h]; exact g0
          · rw [← h]; exact g1
        have hqp : q.natAbs ≠ p.natAbs := by
          rcases hq with ⟨h, h'⟩ | ⟨h', h⟩
          · rw [h, h', Int.natAbs_neg] at hv01; exact hv01
          · rw [h, h', Int.natAbs_neg] at hv01; exact fun h0 => hv01 h0.symm
        have holdq : Hold t' cur q (-p) := by
          rcases hq with ⟨h, h'⟩ | ⟨h', h⟩
          · rw [h, h'] at hold0; exact hold0.1
          · rw [h, h'] at hold0; exact hold0.2
        rw [hq0]
        rcases hcase with ⟨e1, hv1, hplc⟩ | hne
        · rw [e1]
          have htq := (val_one hpi.tg hgq).1 hv1
          refine ⟨.inl fun h0 => tr_cons hpi.tg q htq h0, ?_⟩
          obtain ⟨j, hj⟩ := tr_pl.1 htq
          refine .inr ⟨cur, by rw [Int.neg_neg]; exact hpl, .inr ⟨j, ?_, hj⟩⟩
          have a1 := (pl_var hpi.tg hj).1
          have a2 := (pl_var hpi.tg hpl).1
          omega
        · have h22 : 2 ≤ (w' id).lits.length := (hr.wg.cl id).two h33
          have gl := (hr.wg.cl id).good _ (mem_getD (show 1 < ((w' id).lits).length by omega) 0)
          refine ⟨?_, .inl (not_tr_neg hpi.tg gl hne)⟩
          rcases holdq with h | ⟨i, h1, h2⟩
          · exact .inl h
          · refine .inr ⟨i, h1, ?_⟩
            rcases h2 with h2 | ⟨j, hj, hjp⟩
            · left
              by_cases he : i = cur
              · subst he
                have := pl_inj hpi.tg h1 hpl
                obtain ⟨e, he1, he2⟩ := h1
                obtain ⟨f, hf1, hf2⟩ := hpl
                rw [he1] at hf1
                cases hf1
                omega
              · omega
            · exfalso
              exact tr_cons hpi.tg p (tr_pl.2 ⟨cur, hpl⟩) (tr_pl.2 ⟨j, hjp⟩)
      have hpi' : PI w' t' cur := by
        refine ⟨hr.wg, hr.tg, hr.rs, fun j hj => ?_⟩
        by_cases he : j = id
        · subst he
          exact ⟨(hnew hj).1.lower (by omega), (hnew hj).2.lower (by omega)⟩
        · have e := hr.ne j he
          dsimp only at e
          rw [e] at hj ⊢
          have := hpi.hd j hj
          exact ⟨hr.up.hold _ _ _ hcl this.1, hr.up.hold _ _ _ hcl this.2⟩
      by_cases hc : c ≥ 0
      · rw [if_pos hc]
        refine ⟨hpi', hr.same, hr.up, fun _ => ?_, fun h0 => by dsimp only at h0; omega⟩
        obtain ⟨c1, c2, c3, c4⟩ := hr.conf hc
        refine ⟨id, c1, by omega, ?_, ?_⟩
        · dsimp only at c3 ⊢; omega
        · dsimp only at c2 c4 ⊢; rw [c2]; exact c4
      · rw [if_neg hc]
        have ih := gThroughA_is w0 p cur hgp n (id + 1) w' t' (by omega) hcur' (hr.up.pl cur p hpl) hpi' (by
          intro j
          by_cases he : j = id
          · subst he; exact hr.awake (by dsimp only; omega)
          · exact (haw j).up (hr.ne j he) hr.up) (fun j hj => (hr.ne j (by omega)).trans (hsame j (by omega))) (by
          intro j hj hj3
          by_cases he : j = id
          · subst he; exact hnew hj3
          · have e := hr.ne j he
            dsimp only at e
            rw [e] at hj3 ⊢
            have := hdone j (by omega) hj3
            have hcl' : cur + 1 ≤ t.es.length := pl_lt hpl
            exact ⟨hr.up.hold _ _ _ hcl' this.1, hr.up.hold _ _ _ hcl' this.2⟩)
        exact ⟨ih.1, hr.same.trans ih.2.1, hr.up.trans ih.2.2.1, ih.2.2.2.1, ih.2.2.2.2⟩
    · rw [if_neg hwat]
      refine gThroughA_is w0 p cur hgp n (id + 1) w t (by omega) hcur hpl hpi haw (fun j hj => hsame j (by omega)) (fun j hj hj3 => ?_)
      by_cases he : j = id
      · subst he
        have hh := hpi.hd j hj3
        have hnw : ∀ a, (a = (w j).lits.getD 0 0 ∨ a = (w j).lits.getD 1 0) → a ≠ -p := by
          intro a ha h0
          apply hwat
          rw [← hs]
          have hc := code_range hpn
          have ec : (((goCode (-p)).toNat : Nat) : Int) = goCode (-p) := by omega
          unfold watches
          simp only [Bool.and_eq_true, Bool.or_eq_true, decide_eq_true_eq, ec]
          refine ⟨hj3, ?_⟩
          rcases ha with ha | ha
          · exact .inl (by rw [← ha, h0])
          · exact .inr (by rw [← ha, h0])
        exact ⟨hh.1.next hpl (hnw _ (.inl rfl)), hh.2.next hpl (hnw _ (.inr rfl))⟩
      · exact hdone j (by omega) hj3
theorem pl_take {t : Tr} {i : Nat} {x : Int} : t.take.pl i x ↔ t.pl i x := Iff.rfl
theorem PI.take {w : Wt} {t : Tr} {cur : Nat} (h : PI w t cur) (hc : t.cur < t.es.length) : PI w t.take cur :=
  ⟨h.wg, ⟨h.tg.lits, h.tg.vars, by show t.cur + 1 ≤ t.es.length; omega, h.tg.len, h.tg.st⟩, h.rs, h.hd⟩
def UpX (t t' : Tr) : Prop := t'.dep = t.dep ∧ ∃ fs, t'.es = t.es ++ fs
theorem Up.x {t t' : Tr} (h : Up t t') : UpX t t' := ⟨h.ext.2.1, h.ext.2.2⟩
theorem UpX.trans {a b c : Tr} (h : UpX a b) (k : UpX b c) : UpX a c := by
  obtain ⟨h1, f, h2⟩ := h
  obtain ⟨k1, g, k2⟩ := k
  exact ⟨k1.trans h1, f ++ g, by rw [k2, h2, List.append_assoc]⟩
theorem gDrain_is : ∀ (n : Nat) (w : Wt) (t : Tr), t.cur + n = 12 → PI w t t.cur → (∀ j, Awake w t j) →
    PI (gDrain n w t).1 (gDrain n w t).2.1 (gDrain n w t).2.1.cur ∧ Same w (gDrain n w t).1 ∧ UpX t (gDrain n w t).2.1 ∧ (0 ≤ (gDrain n w t).2.2 → ConfOK (gDrain n w t)) ∧ ((gDrain n w t).2.2 < 0 → (∀ j, Awake (gDrain n w t).1 (gDrain n w t).2.1 j) ∧ (gDrain n w t).2.1.cur = (gDrain n w t).2.1.es.length)
  | 0, w, t, hn, hpi, haw => by
    simp only [gDrain]
    have h1 := hpi.tg.cur
    have h2 := hpi.tg.len
    exact ⟨hpi, Same.refl w, ⟨rfl, [], by simp⟩, fun h0 => by simp at h0, fun _ => ⟨haw, by omega⟩⟩
  | n + 1, w, t, hn, hpi, haw => by
    simp only [gDrain]
    have h1 := hpi.tg.cur
    by_cases hc : t.cur < t.es.length
    · rw [if_pos hc]
      have hpl := at_pl hc
      have hg := at_good hpi.tg hc
      have hth := gThroughA_is w (t.at t.cur) t.cur hg 52 0 w t (by omega) rfl hpl hpi haw (fun _ _ => rfl) (fun j hj => by omega)
      unfold gThrough
      generalize gThroughA w (t.at t.cur) 52 0 w t = o at hth ⊢
      obtain ⟨w', t', c⟩ := o
      dsimp only at hth ⊢
      obtain ⟨a1, a2, a3, a4, a5⟩ := hth
      have hcur : t'.cur = t.cur := a3.ext.1
      by_cases hge : c ≥ 0
      · rw [if_pos hge]
        exact ⟨by dsimp only; rw [hcur]; exact a1, a2, a3.x, a4, fun h0 => by dsimp only at h0; omega⟩
      · rw [if_neg hge]
        obtain ⟨b1, b2⟩ := a5 (by omega)
        have hlt : t'.cur < t'.es.length := by have := a3.ext.len; omega
        have hpt : PI w' t'.take t'.take.cur := by
          show PI w' t'.take (t'.cur + 1)
          rw [hcur]
          exact b1.take hlt
        have ih := gDrain_is n w' t'.take (by show t'.cur + 1 + n = 12; omega) hpt b2
        refine ⟨ih.1, a2.trans ih.2.1, ?_, ih.2.2.2.1, ih.2.2.2.2⟩
        have hx : UpX t t'.take := a3.x
        exact hx.trans ih.2.2.1
    · rw [if_neg hc]
      exact ⟨hpi, Same.refl w, ⟨rfl, [], by simp⟩, fun h0 => by simp at h0, fun _ => ⟨haw, by dsimp only; omega⟩⟩
theorem awake_ClC {w : Wt} {t : Tr} {id : Nat} (hpi : PI w t t.cur) (hcur : t.cur = t.es.length) (haw : Awake w t id) (hst : (w id).st ≠ 0) : ClC (w id).lits t.tr := by
  have gcl := hpi.wg.cl id
  have hle := gcl.st
  have h1 := haw.1
  by_cases h2 : (w id).st = 2
  · obtain ⟨u, hu, ht⟩ := haw.2 h2
    exact .inl ⟨u, hu, ht⟩
  · have h3 : (w id).st = 3 := by omega
    have hlen := gcl.two h3
    have m0 : (w id).lits.getD 0 0 ∈ (w id).lits := mem_getD (by omega) 0
    have m1 : (w id).lits.getD 1 0 ∈ (w id).lits := mem_getD (by omega) 0
    have hv01 : ((w id).lits.getD 0 0).natAbs ≠ ((w id).lits.getD 1 0).natAbs := by
      have := gcl.vars
      rw [List.pairwise_iff_getElem] at this
      have h9 := this 0 1 (by omega) (by omega) (by omega)
      have a1 : (w id).lits.getD 1 0 = (w id).lits[1] := by simp [List.getD, show 1 < (w id).lits.length by omega]
      have a2 : (w id).lits.getD 0 0 = (w id).lits[0] := by simp [List.getD, show 0 < (w id).lits.length by omega]
      rw [a1, a2]; exact h9
    have hh := hpi.hd id h3
    rw [hcur] at hh
    have fin : ∀ a o, Hold t t.es.length a o → ¬ t.tr (-a) ∨ t.tr o := by
      intro a o h
      rcases h with h | ⟨i, hi1, hi2⟩
      · exact .inl h
      · rcases hi2 with hi2 | ⟨j, _, hj⟩
        · have := pl_lt hi1; omega
        · exact .inr (tr_pl.2 ⟨j, hj⟩)
    rcases fin _ _ hh.1 with a1 | a1
    · rcases fin _ _ hh.2 with a2 | a2
      · right
        refine ⟨_, m0, _, m1, fun h0 => hv01 (by rw [h0]), a1, a2⟩
      · exact .inl ⟨_, m0, a2⟩
    · exact .inl ⟨_, m1, a1⟩

theorem gProp_is {w : Wt} {t : Tr} (h : PI w t t.cur) :
    PI (gProp w t).1 (gProp w t).2.1 (gProp w t).2.1.cur ∧ Same w (gProp w t).1 ∧ UpX t (gProp w t).2.1 ∧ (0 ≤ (gProp w t).2.2 → ConfOK (gProp w t)) ∧ ((gProp w t).2.2 < 0 → ∀ id, ((gProp w t).1 id).st ≠ 0 → ClC ((gProp w t).1 id).lits (gProp w t).2.1.tr) := by
  have hw := gWakeA_is w 52 0 w t (by omega) h (fun _ _ => rfl) (fun j hj => by omega)
  unfold gProp gWake
  generalize gWakeA w 52 0 w t = o at hw ⊢
  obtain ⟨w', t', c⟩ := o
  dsimp only at hw ⊢
  obtain ⟨a1, a2, a3, a4, a5⟩ := hw
  by_cases hc : c ≥ 0
  · rw [if_pos hc]
    exact ⟨a1, a2, a3.x, a4, fun h0 => by dsimp only at h0; omega⟩
  · rw [if_neg hc]
    have hcur := a1.tg.cur
    have hlen := a1.tg.len
    have hd := gDrain_is (12 - t'.cur) w' t' (by omega) a1 (a5 (by omega))
    generalize gDrain (12 - t'.cur) w' t' = o2 at hd ⊢
    obtain ⟨w2, t2, c2⟩ := o2
    dsimp only at hd ⊢
    obtain ⟨b1, b2, b3, b4, b5⟩ := hd
    refine ⟨b1, a2.trans b2, a3.x.trans b3, b4, fun h0 id hst => ?_⟩
    exact awake_ClC b1 (b5 h0).2 ((b5 h0).1 id) hst
end Go.Proofs.Qxb6500974aGreat
