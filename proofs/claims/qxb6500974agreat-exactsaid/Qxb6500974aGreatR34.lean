import Derived.Test.Qxb6500974aGreatR33
set_option linter.all false
set_option linter.unusedSimpArgs false
set_option linter.unusedVariables false
namespace Go.Proofs.Qxb6500974aGreat
open Go.Eng
variable {W0 : World}

theorem looks_spec {w : Nat} {W : Obs} {D : Wd} {K : Value → Mem → Prop} {m : Mem} (h : WdAt m w W D) (hb : D.ks.length ≤ 2 ^ 40) (hK : K (.bool true) m) : callOK Tryz.prog W0 8 [ptr w 0] K m := by
  refine call8 ?_
  unfold s8
  have rw2 := (h.sep.p _ _ h.kw).1
  have okk : EK.own m D.ka D.ks.length D.kc D.ks := h.sep.p _ _ h.kk
  refine loop8_1 (γ := Nat) (fun k t i m' => i = k ∧ k ≤ D.ks.length ∧ m' = m) (fun k _ _ => D.ks.length - k) 0 ⟨rfl, by omega, rfl⟩ ?_
  rintro k t i m' ⟨rfl, hk, rfl⟩
  unfold s8_1
  refine ⟨_, _, _, rw2.2.2.1, ?_⟩
  refine ifB_lt (fun hlt => ?_) (fun hlt => ?_)
  · obtain ⟨kp, hkp⟩ := get_some (l := D.ks) (i := k) (by omega)
    obtain ⟨b, o, cs, hb2, hcs, hr⟩ := sl_at okk.sl hkp
    have hcs2 : cs = [.slice kp.ra kp.n kp.n, .slice kp.wa kp.n kp.n] := hcs
    subst hcs2
    obtain ⟨k3, k4, k12⟩ := h.kr k kp hkp
    have o3 : OwnI m' kp.ra kp.n kp.n kp.l := h.sep.p _ _ k3
    have o4 : OwnI m' kp.wa kp.n kp.n kp.l := h.sep.p _ _ k4
    refine ⟨_, _, _, rw2.2.2.1, ?_⟩
    rw [hb2]
    refine ⟨by omega, by omega, ?_⟩
    rw [Int.toNat_natCast]
    refine ⟨_, _, _, hr.1, ?_⟩
    refine ⟨_, _, _, rw2.2.2.1, ?_⟩
    rw [hb2]
    refine ⟨by omega, by omega, ?_⟩
    rw [Int.toNat_natCast]
    refine ⟨_, _, _, hr.2.1, ?_⟩
    refine sameInts_spec o3.sl o4.sl (by omega) ?_
    refine ⟨_, rfl, ?_⟩
    rw [decide_eq_true rfl]
    refine ifB_not (fun h0 => by simp at h0) (fun _ => ?_)
    exact ⟨k + 1, t, _, rfl, ⟨wrapS k (by omega), by omega, rfl⟩, by omega⟩
  · rw [e8_1x0]
    exact hK

theorem small_spec {ops : List Op} {a : Option Addr} {n c : Nat} {K : Value → Mem → Prop} {m : Mem} (hs : EO.fz m a n ops) (hK0 : K (.bool false) m) (hK1 : ops.length ≤ 2 ^ 30 → K (.bool true) m) : callOK Tryz.prog W0 4 [.slice a n c] K m := by
  refine call4 ?_
  have en := hs.len
  unfold s4
  refine ifB_gt (fun _ => hK0) (fun hle => ?_)
  refine loop4_1 (γ := Nat) (fun k t2 n3 i4 m' => i4 = k ∧ k ≤ n ∧ m' = m) (fun k _ _ _ => n - k) 0 ⟨rfl, by omega, rfl⟩ ?_
  rintro k t2 n3 i4 m' ⟨rfl, hk, rfl⟩
  unfold s4_1
  refine ifB_lt (fun hlt => ?_) (fun hlt => ?_)
  · obtain ⟨o, ho⟩ := get_some (l := ops) (i := k) (by omega)
    obtain ⟨b, of, cs, hb2, hcs, hr⟩ := sl_at hs.sl ho
    have hcs2 : cs = o.cells := hcs
    subst hcs2
    rw [hb2]
    refine ⟨by omega, by omega, ?_⟩
    rw [Int.toNat_natCast]
    refine ⟨_, hr.2.2.2.2.1, ?_⟩
    refine ⟨by omega, by omega, ?_⟩
    rw [Int.toNat_natCast]
    refine ⟨_, hr.2.2.2.2.2.1, ?_⟩
    refine ifB_gt (fun hg => ?_) (fun hg => ?_)
    · rw [e4_1r]
      exact hK0
    · exact ⟨k + 1, t2, _, _, rfl, ⟨wrapS k (by omega), by omega, rfl⟩, by omega⟩
  · rw [e4_1x0]
    exact hK1 (by omega)
structure UG where
  k : Nat
  W : Obs
  D : Wd
theorem upTo_spec {ops : List Op} {a : Option Addr} {n c : Nat} {K : Value → Mem → Prop} {m : Mem} (hs : EO.fz m a n ops) (hN : ops.length ≤ 2 ^ 30) (hI : ∀ o ∈ ops, I64 o.a ∧ I64 o.b) (hK : ∀ m', K (.int .i64 (-1)) m') : callOK Tryz.prog W0 5 [.slice a n c] K m := by
  refine callOK_ok fun ok => call5 ?_
  have en := hs.len
  unfold s5
  refine alone_spec hs hN hI ?_
  intro oa τs W1 m1 ok1 x1 s1 ko1 hist1
  refine ⟨_, _, _, rfl, ?_⟩
  refine alloc_row ok1 ?_
  intro w m2 hw _ ok2 kp2 row2 bn2

  have own1 : ET.own m1 oa n n τs := s1.p _ _ ko1
  have hτl : τs.length = n := own1.len.symm
  have s2 := s1.new ok1 kp2 (k := (0, 0)) (o := rowOb w (⟨[], [], [], [], none, 0, none, 0, none, 0, none, 0⟩ : Wd).cells) ⟨row2, bn2⟩ (fun x hx => .inr (by simp [rowOb] at hx; omega))
  have s3 := s2.add (k := (0, 1)) (o := ownOb EP none 0 0 []) (Elt.own.nil _) (fun j oj _ _ x hx => by simp [ownOb, blkOf] at hx)
  have s4 := s3.add (k := (0, 2)) (o := ownOb EP none 0 0 []) (Elt.own.nil _) (fun j oj _ _ x hx => by simp [ownOb, blkOf] at hx)
  have s5 := s4.add (k := (0, 3)) (o := ownOb EK none 0 0 []) (Elt.own.nil _) (fun j oj _ _ x hx => by simp [ownOb, blkOf] at hx)
  have s6 := s5.add (k := (0, 4)) (o := ownOb ES none 0 0 []) (Elt.own.nil _) (fun j oj _ _ x hx => by simp [ownOb, blkOf] at hx)
  have d6 : WdAt m2 w _ (⟨[], [], [], [], none, 0, none, 0, none, 0, none, 0⟩ : Wd) := ⟨s6, by rw [Obs.upd_ne _ _ (by simp), Obs.upd_ne _ _ (by simp), Obs.upd_ne _ _ (by simp), Obs.upd_ne _ _ (by simp), Obs.upd_eq], by rw [Obs.upd_ne _ _ (by simp), Obs.upd_ne _ _ (by simp), Obs.upd_ne _ _ (by simp), Obs.upd_eq]; rfl, by rw [Obs.upd_ne _ _ (by simp), Obs.upd_ne _ _ (by simp), Obs.upd_eq]; rfl, by rw [Obs.upd_ne _ _ (by simp), Obs.upd_eq]; rfl, by rw [Obs.upd_eq]; rfl, fun i T hi => by simp at hi, fun i T hi => by simp at hi, fun i k hi => by simp at hi⟩
  have e6 : ∀ k : Key, 5 ≤ k.1 → ((((W1.upd (0, 0) (some (rowOb w (⟨[], [], [], [], none, 0, none, 0, none, 0, none, 0⟩ : Wd).cells))).upd (0, 1) (some (ownOb EP none 0 0 []))).upd (0, 2) (some (ownOb EP none 0 0 []))).upd (0, 3) (some (ownOb EK none 0 0 []))).upd (0, 4) (some (ownOb ES none 0 0 [])) k = W1 k := by
    intro k hk
    have : ∀ j, k ≠ (0, j) := fun j h0 => by rw [h0] at hk; simp at hk
    rw [Obs.upd_ne _ _ (this _), Obs.upd_ne _ _ (this _), Obs.upd_ne _ _ (this _), Obs.upd_ne _ _ (this _), Obs.upd_ne _ _ (this _)]
  generalize ((((W1.upd (0, 0) (some (rowOb w (⟨[], [], [], [], none, 0, none, 0, none, 0, none, 0⟩ : Wd).cells))).upd (0, 1) (some (ownOb EP none 0 0 []))).upd (0, 2) (some (ownOb EP none 0 0 []))).upd (0, 3) (some (ownOb EK none 0 0 []))).upd (0, 4) (some (ownOb ES none 0 0 [])) = W6 at d6 e6
  clear s2 s3 s4 s5 s6
  refine loop5_1 (γ := UG) (fun g t2 i m' => i = g.k ∧ g.k ≤ n ∧ m'.Ok ∧ Ext m m' ∧ WdAt m' w g.W g.D ∧ (g.D.xs.length, g.D.ss.map p2) = csAt ops g.k ∧ g.D.qs.length = g.D.xs.length ∧ g.D.ks.length ≤ 4 * g.k ∧ g.D.ss.length ≤ g.k ∧ g.D.xs.length ≤ g.k ∧ (∀ j, g.k ≤ j → g.W (5, j) = W1 (5, j)) ∧ g.W (8, 0) = W1 (8, 0)) (fun g _ _ => n - g.k) ⟨0, W6, ⟨[], [], [], [], none, 0, none, 0, none, 0, none, 0⟩⟩
    ⟨rfl, by dsimp only; omega, ok2, x1.trans kp2.ext, d6, rfl, rfl, by simp, by simp, by simp, fun j _ => e6 _ (by simp), e6 _ (by simp)⟩ ?_
  rintro ⟨k, W, D⟩ t2 i m3 ⟨hik, hk, ok3, x3, d3, cs3, hql, hbk, hbs, hbx, e5, e8⟩
  dsimp only at hik hk d3 cs3 hql hbk hbs hbx e5 e8 ⊢
  subst hik
  unfold s5_1
  refine ifB_lt (fun hlt => ?_) (fun hlt => ?_)
  · obtain ⟨o, ho⟩ := get_some (l := ops) (i := k) (by omega)
    have es := x3.fz hs
    refine EO_get es.sl ho fun _ _ _ => ?_
    obtain ⟨τ, hτ, hok⟩ := hist1 k o (by omega) ho
    have ownt : ET.own m3 oa n n τs := d3.sep.p _ _ (e8.trans ko1)
    obtain ⟨b5, o5, hb5, row5, _⟩ := ET_row ownt.sl hτ
    rw [hb5]
    refine ⟨by omega, by omega, ?_⟩
    rw [Int.toNat_natCast]
    refine ⟨_, row5.1, _, row5.2.1, _, row5.2.2.1, _, _, _, row5.2.2.2.1, _, row5.2.2.2.2.1, _, row5.2.2.2.2.2.1, _, row5.2.2.2.2.2.2.1, _, row5.2.2.2.2.2.2.2.1, _, row5.2.2.2.2.2.2.2.2.1, _, row5.2.2.2.2.2.2.2.2.2.1, ?_⟩
    have hok2 : ToldOK W k τ (D.xs.length, D.ss.map p2) o := by
      rw [cs3]
      refine ⟨fun h1 h2 => ?_, hok.chk, hok.lst⟩
      have := hok.sol h1 h2
      exact ⟨this.1, by rw [e5 k (by omega)]; exact this.2⟩
    have hcs := csAt_succ ho
    refine step_spec d3 hql hok2 (hI o (List.mem_of_getElem? ho)) (by omega) (by omega) (by omega) ⟨?_⟩
    intro W' D' m4 ok4 x4 d4 cs4 hql4 hbk4 e54 e84
    refine ⟨_, rfl, ?_⟩
    refine ifB_not (fun h0 => by simp at h0) (fun _ => ?_)
    refine looks_spec d4 (by omega) ?_
    refine ⟨_, rfl, ?_⟩
    refine ifB_not (fun h0 => by simp at h0) (fun _ => ?_)
    have hlen : D'.xs.length ≤ k + 1 ∧ D'.ss.length ≤ k + 1 := by
      have h1 := congrArg Prod.fst cs4
      have h2 := congrArg (fun x : Cs => x.2.length) cs4
      dsimp only at h1 h2
      rw [List.length_map] at h2
      rw [h1, h2]
      unfold nxt
      split
      · dsimp only; rw [List.length_map]; omega
      · split
        · dsimp only; rw [List.length_append, List.length_map]; simp; omega
        · dsimp only; rw [List.length_map]; omega
    refine ⟨⟨k + 1, W', D'⟩, t2, _, rfl, ⟨wrapS k (by omega), by dsimp only; omega, ok4, x3.trans x4, d4, ?_, hql4, by dsimp only; omega, hlen.2, hlen.1, ?_, e84.trans e8⟩, by dsimp only; omega⟩
    · dsimp only
      rw [hcs, cs4, cs3]
    · intro j hj
      dsimp only at hj ⊢
      rw [e54 j (by omega), e5 j (by omega)]
  · rw [e5_1x0]
    exact hK m3
theorem exact_spec {ops : List Op} {a : Option Addr} {n c : Nat} {K : Value → Mem → Prop} {m : Mem} (hs : EO.fz m a n ops) (hI : ∀ o ∈ ops, I64 o.a ∧ I64 o.b) (hK : ∀ m', K (.bool true) m') : callOK Tryz.prog W0 3 [.slice a n c] K m := by
  refine call3 ?_
  unfold s3
  refine small_spec hs ?_ ?_
  · refine ⟨_, rfl, ?_⟩
    refine ifB_not (fun _ => hK _) (fun h0 => by simp at h0)
  · intro hN
    refine ⟨_, rfl, ?_⟩
    refine ifB_not (fun h0 => by simp at h0) (fun _ => ?_)
    refine upTo_spec hs hN hI ?_
    intro m'
    exact ⟨_, rfl, hK m'⟩
end Go.Proofs.Qxb6500974aGreat
