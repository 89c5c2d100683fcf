import Derived.Test.Qxb6500974aGreatR7
set_option linter.all false
set_option linter.unusedSimpArgs false
set_option linter.unusedVariables false
namespace Go.Proofs.Qxb6500974aGreat
open Go.Eng
variable {W0 : World}

theorem gLook_ne {w : Wt} {t : Tr} {id j : Nat} (h : j ≠ id) : (gLook w t id).1 j = w j := by
  unfold gLook
  dsimp only
  split
  · exact fupd_ne _ _ h
  · split
    · exact fupd_ne _ _ h
    · split
      · exact fupd_ne _ _ h
      · exact fupd_ne _ _ h
theorem gVisit_ne {w : Wt} {t : Tr} {id j : Nat} {p : Int} (h : j ≠ id) : (gVisit w t id p).1 j = w j := by
  unfold gVisit
  dsimp only
  split
  · exact fupd_ne _ _ h
  · split
    · exact fupd_ne _ _ h
    · split
      · exact fupd_ne _ _ h
      · split
        · exact fupd_ne _ _ h
        · exact fupd_ne _ _ h

def Tr.Ext (t t' : Tr) : Prop := t'.cur = t.cur ∧ t'.dep = t.dep ∧ ∃ fs, t'.es = t.es ++ fs
theorem Tr.Ext.refl (t : Tr) : t.Ext t := ⟨rfl, rfl, [], by simp⟩
theorem Tr.Ext.trans {a b c : Tr} (h : a.Ext b) (k : b.Ext c) : a.Ext c := by
  obtain ⟨h1, h2, f, h3⟩ := h
  obtain ⟨k1, k2, g, k3⟩ := k
  exact ⟨by rw [k1, h1], by rw [k2, h2], f ++ g, by rw [k3, h3, List.append_assoc]⟩
theorem Tr.Ext.join (t : Tr) (l r : Int) : t.Ext (t.join l r) := ⟨rfl, rfl, _, rfl⟩
theorem Tr.Ext.len {a b : Tr} (h : a.Ext b) : a.es.length ≤ b.es.length := by
  obtain ⟨_, _, f, h3⟩ := h
  rw [h3]; simp
theorem gLook_ext {w : Wt} {t : Tr} {id : Nat} : t.Ext (gLook w t id).2.1 := by
  unfold gLook
  dsimp only
  split
  · exact Tr.Ext.refl _
  · split
    · exact Tr.Ext.refl _
    · split
      · exact Tr.Ext.join _ _ _
      · exact Tr.Ext.refl _
theorem gVisit_ext {w : Wt} {t : Tr} {id : Nat} {p : Int} : t.Ext (gVisit w t id p).2.1 := by
  unfold gVisit
  dsimp only
  split
  · exact Tr.Ext.refl _
  · split
    · exact Tr.Ext.refl _
    · split
      · exact Tr.Ext.refl _
      · split
        · exact Tr.Ext.join _ _ _
        · exact Tr.Ext.refl _
def gWakeA (w0 : Wt) : Nat → Nat → Wt → Tr → Wt × Tr × Int
  | 0, _, w, t => (w, t, -1)
  | n + 1, id, w, t => if (w0 id).st = 1 ∨ (w0 id).st = 2 then (if (gLook w t id).2.2 ≥ 0 then gLook w t id else gWakeA w0 n (id + 1) (gLook w t id).1 (gLook w t id).2.1) else gWakeA w0 n (id + 1) w t
def gWake (w : Wt) (t : Tr) : Wt × Tr × Int := gWakeA w 52 0 w t
theorem wake_spec {b tb0 : Nat} {w : Wt} {t : Tr} {K : Value → Mem → Prop} {m : Mem} (h : WAt m b tb0 w) (ht : TrAt m tb0 t) (hbt : b ≠ tb0)
    (hK : ∀ m', m'.Ok → Kp [b, tb0] m m' → WAt m' b tb0 (gWake w t).1 → TrAt m' tb0 (gWake w t).2.1 → K (.int .i64 (gWake w t).2.2) m') : callOK Tryz.prog W0 56 [ptr b 0] K m := by
  refine callOK_ok fun ok => call56 ?_
  have hw0 := h
  obtain ⟨g, c, h1, h2, h3⟩ := h
  unfold s56
  refine ⟨_, h1.fresh, _, h1.weak, ?_⟩
  have ofw := u64_or h3.fresh.1 h3.weak.1
  unfold gWake at hK
  obtain ⟨r, hr⟩ : ∃ r, gWakeA w 52 0 w t = r := ⟨_, rfl⟩
  rw [hr] at hK
  refine loop56_1 (γ := Nat × Wt × Tr) (fun g t2 id m' => id = g.1 ∧ g.1 ≤ 52 ∧ m'.Ok ∧ Kp [b, tb0] m m' ∧ WAt m' b tb0 g.2.1 ∧ TrAt m' tb0 g.2.2 ∧ (∀ j, g.1 ≤ j → g.2.1 j = w j) ∧ gWakeA w (52 - g.1) g.1 g.2.1 g.2.2 = r) (fun g _ _ => 52 - g.1) (0, w, t)
    ⟨rfl, by dsimp only; omega, ok, Kp.refl _ _, hw0, ht, fun _ _ => rfl, hr⟩ ?_
  rintro ⟨k, w1, t1⟩ t2 id m1 ⟨rfl, hk, ok1, kp1, hw1, ht1, hsame, hj⟩
  dsimp only at hk hw1 ht1 hsame hj ⊢
  unfold s56_1
  refine ifB_lt (fun hlt => ?_) (fun hlt => ?_)
  · have ef : 52 - k = (52 - (k + 1)) + 1 := by omega
    rw [ef] at hj
    simp only [gWakeA] at hj
    have htodo : goHas (bOr .u64 c.fresh c.weak) (k : Int) = decide ((w k).st = 1 ∨ (w k).st = 2) := by
      rw [goHas_eq ofw.1 (by omega), ofw.2, h3.fresh.2 k (by omega), h3.weak.2 k (by omega)]
      simp
    rw [htodo]
    refine ifB_dec (fun hst => ?_) (fun hst => ?_)
    · rw [if_pos hst] at hj
      refine look_spec hw1 ht1 hbt (by omega) (by rw [hsame k (by omega)]; exact hst) ?_
      intro m2 ok2 kp2 hw2 ht2
      refine ⟨_, rfl, ?_⟩
      refine ifB_ge (fun hge => ?_) (fun hge => ?_)
      · rw [if_pos hge] at hj
        rw [← hj] at hK
        rw [e56_1r]
        exact hK m2 ok2 (kp1.trans kp2) hw2 ht2
      · rw [if_neg (by omega)] at hj
        refine ⟨(k + 1, _, _), _, _, rfl, ⟨wrapS k (by omega), by dsimp only; omega, ok2, kp1.trans kp2, hw2, ht2, ?_, hj⟩, by dsimp only; omega⟩
        intro j hj2
        dsimp only at hj2 ⊢
        exact (gLook_ne (by omega)).trans (hsame j (by omega))
    · rw [if_neg hst] at hj
      exact ⟨(k + 1, w1, t1), _, _, rfl, ⟨wrapS k (by omega), by dsimp only; omega, ok1, kp1, hw1, ht1, fun j hj2 => hsame j (by dsimp only at hj2; omega), hj⟩, by dsimp only; omega⟩
  · have : k = 52 := by omega
    subst this
    simp only [Nat.sub_self, gWakeA] at hj
    rw [← hj] at hK
    rw [e56_1x0]
    exact hK m1 ok1 kp1 hw1 ht1

def gThroughA (w0 : Wt) (p : Int) : Nat → Nat → Wt → Tr → Wt × Tr × Int
  | 0, _, w, t => (w, t, -1)
  | n + 1, id, w, t => if watches (w0 id) (goCode (-p)).toNat = true then (if (gVisit w t id p).2.2 ≥ 0 then gVisit w t id p else gThroughA w0 p n (id + 1) (gVisit w t id p).1 (gVisit w t id p).2.1) else gThroughA w0 p n (id + 1) w t
def gThrough (w : Wt) (t : Tr) (p : Int) : Wt × Tr × Int := gThroughA w p 52 0 w t
theorem good_neg {p : Int} (h : goGoodLit p = true) : goGoodLit (-p) = true := by
  have := good_abs h
  have hh : p ≠ 0 ∧ -12 ≤ p ∧ p ≤ 12 := by
    refine ⟨this.1, ?_, ?_⟩ <;> omega
  simp [goGoodLit]; omega
theorem watches_of {c : Cl} (g : ClGood c) {f : Int} (hf : goGoodLit f = true) (h : watches c (goCode f).toNat = true) : c.st = 3 ∧ (c.lits.getD 0 0 = f ∨ c.lits.getD 1 0 = f) := by
  unfold watches at h
  simp only [Bool.and_eq_true, Bool.or_eq_true, decide_eq_true_eq] at h
  have h2 := g.two h.1
  have hc := code_range hf
  have e : (((goCode f).toNat : Nat) : Int) = goCode f := by omega
  rw [e] at h
  refine ⟨h.1, ?_⟩
  rcases h.2 with h | h
  · exact .inl (code_inj (g.good _ (mem_getD (by omega) 0)) hf h)
  · exact .inr (code_inj (g.good _ (mem_getD (by omega) 0)) hf h)
theorem through_spec {b tb0 : Nat} {w : Wt} {t : Tr} {p : Int} {K : Value → Mem → Prop} {m : Mem} (h : WAt m b tb0 w) (ht : TrAt m tb0 t) (hbt : b ≠ tb0) (hp : goGoodLit p = true)
    (hK : ∀ m', m'.Ok → Kp [b, tb0] m m' → WAt m' b tb0 (gThrough w t p).1 → TrAt m' tb0 (gThrough w t p).2.1 → K (.int .i64 (gThrough w t p).2.2) m') : callOK Tryz.prog W0 102 [ptr b 0, .int .i64 p] K m := by
  refine callOK_ok fun ok => call102 ?_
  have hw0 := h
  obtain ⟨g, c, h1, h2, h3⟩ := h
  have hpa := good_abs hp
  have hwp : IntKind.wrap .i64 (0 - p) = -p := wrap_neg hpa.2.2.2.1
  have hpn := good_neg hp
  have rc := code_range hpn
  unfold s102
  rw [hwp]
  refine ⟨rc.1, rc.2, ?_⟩
  refine ⟨_, h1.list (by omega), ?_⟩
  unfold gThrough at hK
  obtain ⟨r, hr⟩ : ∃ r, gThroughA w p 52 0 w t = r := ⟨_, rfl⟩
  rw [hr] at hK
  refine loop102_1 (γ := Nat × Wt × Tr) (fun g t2 id m' => id = g.1 ∧ g.1 ≤ 52 ∧ m'.Ok ∧ Kp [b, tb0] m m' ∧ WAt m' b tb0 g.2.1 ∧ TrAt m' tb0 g.2.2 ∧ (∀ j, g.1 ≤ j → g.2.1 j = w j) ∧ gThroughA w p (52 - g.1) g.1 g.2.1 g.2.2 = r) (fun g _ _ => 52 - g.1) (0, w, t)
    ⟨rfl, by dsimp only; omega, ok, Kp.refl _ _, hw0, ht, fun _ _ => rfl, hr⟩ ?_
  rintro ⟨k, w1, t1⟩ t2 id m1 ⟨rfl, hk, ok1, kp1, hw1, ht1, hsame, hj⟩
  dsimp only at hk hw1 ht1 hsame hj ⊢
  unfold s102_1
  refine ifB_lt (fun hlt => ?_) (fun hlt => ?_)
  · have ef : 52 - k = (52 - (k + 1)) + 1 := by omega
    rw [ef] at hj
    simp only [gThroughA] at hj
    rw [goHas_eq (h3.list _ (by omega)).1 (by omega), (h3.list _ (by omega)).2 k (by omega)]
    by_cases hst : watches (w k) (goCode (-p)).toNat = true
    · rw [if_pos hst] at hj
      rw [hst]
      refine ifB_of (fun _ => ?_) (fun h0 => by cases h0)
      have hwo := watches_of (g.cl k) hpn hst
      have hs := hsame k (by omega)
      refine visit_spec hw1 ht1 hbt (by omega) (by rw [hs]; exact hwo.1) hp (by rw [hs]; exact hwo.2) ?_
      intro m2 ok2 kp2 hw2 ht2
      refine ⟨_, rfl, ?_⟩
      refine ifB_ge (fun hge => ?_) (fun hge => ?_)
      · rw [if_pos hge] at hj
        rw [← hj] at hK
        rw [e102_1r]
        exact hK m2 ok2 (kp1.trans kp2) hw2 ht2
      · rw [if_neg (by omega)] at hj
        refine ⟨(k + 1, _, _), _, _, rfl, ⟨wrapS k (by omega), by dsimp only; omega, ok2, kp1.trans kp2, hw2, ht2, ?_, hj⟩, by dsimp only; omega⟩
        intro j hj2
        dsimp only at hj2 ⊢
        exact (gVisit_ne (by omega)).trans (hsame j (by omega))
    · rw [if_neg hst] at hj
      rw [Bool.eq_false_iff.2 hst]
      refine ifB_of (fun h0 => by cases h0) (fun _ => ?_)
      exact ⟨(k + 1, w1, t1), _, _, rfl, ⟨wrapS k (by omega), by dsimp only; omega, ok1, kp1, hw1, ht1, fun j hj2 => hsame j (by dsimp only at hj2; omega), hj⟩, by dsimp only; omega⟩
  · have : k = 52 := by omega
    subst this
    simp only [Nat.sub_self, gThroughA] at hj
    rw [← hj] at hK
    rw [e102_1x0]
    exact hK m1 ok1 kp1 hw1 ht1
theorem gThroughA_ext {w0 : Wt} {p : Int} : ∀ (n id : Nat) (w : Wt) (t : Tr), t.Ext (gThroughA w0 p n id w t).2.1
  | 0, id, w, t => Tr.Ext.refl _
  | n + 1, id, w, t => by
    simp only [gThroughA]
    split
    · split
      · exact gVisit_ext
      · exact gVisit_ext.trans (gThroughA_ext n _ _ _)
    · exact gThroughA_ext n _ _ _
def gDrain : Nat → Wt → Tr → Wt × Tr × Int
  | 0, w, t => (w, t, -1)
  | n + 1, w, t => if t.cur < t.es.length then (if (gThrough w t (t.at t.cur)).2.2 ≥ 0 then gThrough w t (t.at t.cur) else gDrain n (gThrough w t (t.at t.cur)).1 (gThrough w t (t.at t.cur)).2.1.take) else (w, t, -1)
theorem at_good {t : Tr} (g : t.Good) {i : Nat} (h : i < t.es.length) : goGoodLit (t.at i) = true := by
  unfold Tr.at
  rw [if_pos (by omega)]
  simp only [Int.toNat_natCast]
  rw [List.getElem?_eq_getElem h]
  exact g.lits _ (List.getElem_mem h)
theorem drain_spec {b tb0 : Nat} {w : Wt} {t : Tr} {K : Value → Mem → Prop} {m : Mem} (h : WAt m b tb0 w) (ht : TrAt m tb0 t) (hbt : b ≠ tb0)
    (hK : ∀ m', m'.Ok → Kp [b, tb0] m m' → WAt m' b tb0 (gDrain (12 - t.cur) w t).1 → TrAt m' tb0 (gDrain (12 - t.cur) w t).2.1 → K (.int .i64 (gDrain (12 - t.cur) w t).2.2) m') : callOK Tryz.prog W0 57 [ptr b 0] K m := by
  refine callOK_ok fun ok => call57 ?_
  have hptr : ∀ {m' : Mem} {w' : Wt}, WAt m' b tb0 w' → ∃ c, WaB m' b c ∧ c.t = tb0 := by
    rintro m' w' ⟨g, c, h1, h2, h3⟩
    exact ⟨c, h1, h2⟩
  unfold s57
  obtain ⟨c, c1, c2⟩ := hptr h
  refine ⟨_, c1.t, ?_⟩
  rw [c2]
  refine pending_spec ht ⟨_, rfl, ?_⟩
  refine loop57_1 (γ := Wt × Tr) (fun g t2 pend m' => pend = ((g.2.es.length - g.2.cur : Nat) : Int) ∧ g.2.cur ≤ 12 ∧ m'.Ok ∧ Kp [b, tb0] m m' ∧ WAt m' b tb0 g.1 ∧ TrAt m' tb0 g.2 ∧ gDrain (12 - g.2.cur) g.1 g.2 = gDrain (12 - t.cur) w t) (fun g _ _ => 12 - g.2.cur) (w, t)
    ⟨rfl, ?_, ok, Kp.refl _ _, h, ht, rfl⟩ ?_
  · obtain ⟨gt, _⟩ := ht
    have := gt.cur; have := gt.len
    dsimp only; omega
  rintro ⟨w1, t1⟩ t2 pend m1 ⟨rfl, hc12, ok1, kp1, hw1, ht1, hj⟩
  dsimp only at hc12 hw1 ht1 hj ⊢
  have gt1 : t1.Good := by obtain ⟨gt, _⟩ := ht1; exact gt
  have hl12 := gt1.len
  have hcl := gt1.cur
  unfold s57_1
  refine ifB_gt (fun hlt => ?_) (fun hlt => ?_)
  · have hcur : t1.cur < t1.es.length := by omega
    have ef : 12 - t1.cur = (12 - (t1.cur + 1)) + 1 := by omega
    rw [ef] at hj
    simp only [gDrain] at hj
    rw [if_pos hcur] at hj
    obtain ⟨c, c1, c2⟩ := hptr hw1
    refine ⟨_, c1.t, ?_⟩
    rw [c2]
    refine len_spec ht1 ⟨_, rfl, ?_⟩
    refine ⟨_, c1.t, ?_⟩
    rw [c2]
    have hidx : IntKind.wrap .i64 ((t1.es.length : Int) - ((t1.es.length - t1.cur : Nat) : Int)) = ((t1.cur : Nat) : Int) := by rw [wrap_i64 (by omega) (by omega)]; omega
    rw [hidx]
    refine at_spec ht1 ⟨_, rfl, ?_⟩
    refine through_spec hw1 ht1 hbt (at_good gt1 hcur) ?_
    intro m2 ok2 kp2 hw2 ht2
    refine ⟨_, rfl, ?_⟩
    have hcur2 : (gThrough w1 t1 (t1.at t1.cur)).2.1.cur = t1.cur := (gThroughA_ext _ _ _ _).1
    refine ifB_ge (fun hge => ?_) (fun hge => ?_)
    · rw [if_pos hge] at hj
      rw [← hj] at hK
      rw [e57_1r]
      exact hK m2 ok2 (kp1.trans kp2) hw2 ht2
    · rw [if_neg (by omega)] at hj
      obtain ⟨c', c1', c2'⟩ := hptr hw2
      refine ⟨_, c1'.t, ?_⟩
      rw [c2']
      have hlt2 : (gThrough w1 t1 (t1.at t1.cur)).2.1.cur < (gThrough w1 t1 (t1.at t1.cur)).2.1.es.length := by
        have := (gThroughA_ext (w0 := w1) (p := t1.at t1.cur) 52 0 w1 t1).len
        rw [hcur2]; exact Nat.lt_of_lt_of_le hcur this
      refine ttake_spec ht2 hlt2 ?_
      intro x3 m3 ok3 kp3 ht3
      refine ⟨_, rfl, ?_⟩
      have hw3 := hw2.keep kp3 (by simpa using hbt)
      obtain ⟨c3, c13, c23⟩ := hptr hw3
      refine ⟨_, c13.t, ?_⟩
      rw [c23]
      refine pending_spec ht3 ⟨_, rfl, ?_⟩
      refine ⟨(_, _), _, _, rfl, ⟨rfl, ?_, ok3, (kp1.trans kp2).trans (kp3.mono (by simp)), hw3, ht3, ?_⟩, ?_⟩
      · show (gThrough w1 t1 (t1.at t1.cur)).2.1.cur + 1 ≤ 12
        omega
      · have e : 12 - (gThrough w1 t1 (t1.at t1.cur)).2.1.take.cur = 12 - (t1.cur + 1) := by
          show 12 - ((gThrough w1 t1 (t1.at t1.cur)).2.1.cur + 1) = _
          omega
        show gDrain (12 - (gThrough w1 t1 (t1.at t1.cur)).2.1.take.cur) (gThrough w1 t1 (t1.at t1.cur)).1 (gThrough w1 t1 (t1.at t1.cur)).2.1.take = _
        rw [e]; exact hj
      · show 12 - ((gThrough w1 t1 (t1.at t1.cur)).2.1.cur + 1) < 12 - t1.cur
        omega
  · have hge : ¬ t1.cur < t1.es.length := by omega
    have hfin : gDrain (12 - t1.cur) w1 t1 = (w1, t1, -1) := by
      cases 12 - t1.cur with
      | zero => rfl
      | succ n => simp only [gDrain]; rw [if_neg hge]
    rw [hfin] at hj
    rw [← hj] at hK
    rw [e57_1x0]
    exact hK m1 ok1 kp1 hw1 ht1
def gProp (w : Wt) (t : Tr) : Wt × Tr × Int := if (gWake w t).2.2 ≥ 0 then gWake w t else gDrain (12 - (gWake w t).2.1.cur) (gWake w t).1 (gWake w t).2.1
theorem propagate_spec {b tb0 : Nat} {w : Wt} {t : Tr} {K : Value → Mem → Prop} {m : Mem} (h : WAt m b tb0 w) (ht : TrAt m tb0 t) (hbt : b ≠ tb0)
    (hK : ∀ m', m'.Ok → Kp [b, tb0] m m' → WAt m' b tb0 (gProp w t).1 → TrAt m' tb0 (gProp w t).2.1 → K (.int .i64 (gProp w t).2.2) m') : callOK Tryz.prog W0 29 [ptr b 0] K m := by
  refine callOK_ok fun ok => call29 ?_
  obtain ⟨g, c, h1, h2, h3⟩ := h
  have htb : tb0 ∉ [b] := by simpa using fun h => hbt h.symm
  unfold s29
  refine h1.st_visits ok ?_
  intro m1 ok1 kp1 b1
  have hw1 : WAt m1 b tb0 w := ⟨g, _, b1, h2, ⟨h3.used, h3.fresh, h3.weak, h3.size, h3.lits, h3.list⟩⟩
  unfold gProp at hK
  refine wake_spec hw1 (ht.keep kp1 htb) hbt ?_
  intro m2 ok2 kp2 hw2 ht2
  have kk := (kp1.mono (S' := [b, tb0]) (by simp)).trans kp2
  refine ⟨_, rfl, ?_⟩
  refine ifB_ge (fun hge => ?_) (fun hge => ?_)
  · rw [if_pos hge] at hK
    exact hK m2 ok2 kk hw2 ht2
  · rw [if_neg (by omega)] at hK
    refine drain_spec hw2 ht2 hbt ?_
    intro m3 ok3 kp3 hw3 ht3
    exact ⟨_, rfl, hK m3 ok3 (kk.trans kp3) hw3 ht3⟩
end Go.Proofs.Qxb6500974aGreat
