import Derived.Test.Qxb6500974aGreatR32
set_option linter.all false
set_option linter.unusedSimpArgs false
set_option linter.unusedVariables false
namespace Go.Proofs.Qxb6500974aGreat
open Go.Eng
variable {W0 : World}

theorem EK_get {m : Mem} {a : Option Addr} {n : Nat} {L : List Kpt} (h : EK.sl m a n L) {i : Nat} {x : Kpt} (hi : L[i]? = some x) {K : Nat → Nat → Nat → Option Addr → Nat → Nat → Option Addr → Nat → Nat → Prop} (hK : ∀ b o j, K b o j x.ra x.n x.n x.wa x.n x.n) :
    ckP a fun b o => ckI (i : Int) n fun j => ldSl m b (o + (j * 2)) fun a1 n1 c1 => ldSl m b ((o + (j * 2)) + 1) fun a2 n2 c2 => K b o j a1 n1 c1 a2 n2 c2 := by
  obtain ⟨b, o, cs, rfl, rfl, hr⟩ := sl_at h hi
  have hl : i < L.length := by
    rcases Nat.lt_or_ge i L.length with h' | h'
    · exact h'
    · rw [List.getElem?_eq_none h'] at hi; cases hi
  have := h.len
  exact ⟨by omega, by omega, _, _, _, hr.1, _, _, _, hr.2.1, hK _ _ _⟩
theorem one2s {a a' : Option Addr} {n c n' c' : Nat} : ∀ v ∈ [(Value.slice a n c), (.slice a' n' c')], oneC v = true := by
  intro v hv; simp at hv; rcases hv with rfl | rfl <;> rfl
structure StepK (m : Mem) (w i : Nat) (W : Obs) (D : Wd) (o : Op) (K : Value → Mem → Prop) : Prop where
  k : ∀ W' D' m', m'.Ok → Ext m m' → WdAt m' w W' D' → (D'.xs.length, D'.ss.map p2) = nxt (D.xs.length, D.ss.map p2) o → D'.qs.length = D'.xs.length → D'.ks.length ≤ D.ks.length + 4 → (∀ j, j ≠ i → W' (5, j) = W (5, j)) → W' (8, 0) = W (8, 0) → K (.bool true) m'
theorem step_spec {w i : Nat} {W : Obs} {D : Wd} {o : Op} {τ : Told} {K : Value → Mem → Prop} {m : Mem} (h : WdAt m w W D) (hql : D.qs.length = D.xs.length) (ht : ToldOK W i τ (D.xs.length, D.ss.map p2) o) (hI : I64 o.a ∧ I64 o.b) (hbk : D.ks.length + 4 ≤ 2 ^ 33) (hbs : D.ss.length ≤ 2 ^ 33) (hbx : D.xs.length ≤ 2 ^ 33)
    (hK : StepK m w i W D o K) :
    callOK Tryz.prog W0 7 [ptr w 0, .agg #[(.int .i64 o.kind), (.int .i64 o.a), (.int .i64 o.b), (.int .i64 o.c), (.string o.s), (.string o.t)], .agg #[(.int .i64 τ.e), (.int .i64 τ.p), (.bool τ.sat), (.slice τ.a τ.n τ.n), (.string τ.pf), (.int .i64 τ.conf), (.int .i64 τ.rest), (.int .i64 τ.v.1), (.int .i64 τ.v.2.1), (.int .i64 τ.v.2.2)]] K m := by
  refine callOK_ok fun ok => call7 ?_
  unfold s7
  refine alloc_row ok ?_
  intro b1 m1 hb1 _ ok1 kp1 row1 bn1
  have d1 := h.loc (key := (9, 4)) (vs := o.cells) ok kp1 hb1 ⟨row1, bn1⟩ (by simp)
  refine alloc_row ok1 ?_
  intro b3 m2 hb3 _ ok2 kp2 row3 bn3
  have d2 := d1.loc (key := (9, 5)) (vs := τ.cells) ok1 kp2 hb3 ⟨row3, bn3⟩ (by simp)
  have l4 : (W.upd (9, 4) (some (rowOb b1 o.cells))).upd (9, 5) (some (rowOb b3 τ.cells)) (9, 4) = some (rowOb b1 o.cells) := by rw [Obs.upd_ne _ _ (by simp), Obs.upd_eq]
  have l5 : (W.upd (9, 4) (some (rowOb b1 o.cells))).upd (9, 5) (some (rowOb b3 τ.cells)) (9, 5) = some (rowOb b3 τ.cells) := Obs.upd_eq _ _ _
  have e2 : ∀ k : Key, k.1 ≠ 9 → (W.upd (9, 4) (some (rowOb b1 o.cells))).upd (9, 5) (some (rowOb b3 τ.cells)) k = W k := fun k hk => by rw [Obs.upd_ne _ _ (fun h0 => by rw [h0] at hk; simp at hk), Obs.upd_ne _ _ (fun h0 => by rw [h0] at hk; simp at hk)]
  generalize (W.upd (9, 4) (some (rowOb b1 o.cells))).upd (9, 5) (some (rowOb b3 τ.cells)) = W2 at d2 l4 l5 e2
  have x2 : Ext m m2 := kp1.ext.trans kp2.ext
  clear d1 row1 bn1 row3 bn3
  have r1 := (d2.sep.p _ _ l4).1
  have r3 := (d2.sep.p _ _ l5).1
  have rw2 := (d2.sep.p _ _ d2.kw).1

  have same : ∀ W' D' m', m'.Ok → Ext m2 m' → WdAt m' w W' D' → D'.xs.length = D.xs.length → D'.qs.length = D.qs.length → D'.ss = D.ss → D'.ks.length = D.ks.length → (∀ k : Key, 5 ≤ k.1 → k.1 ≠ 9 → W' k = W2 k) → nxt (D.xs.length, D.ss.map p2) o = (D.xs.length, D.ss.map p2) → K (.bool true) m' := by
    intro W' D' m' ok' x' d' y1 y2 y3 y4 e' hn
    refine hK.k W' D' m' ok' (x2.trans x') d' ?_ ?_ ?_ ?_ ?_
    · rw [y1, y3, hn]
    · rw [y1, y2, hql]
    · omega
    · intro j _; rw [e' _ (by simp) (by simp), e2 _ (by simp)]
    · rw [e' _ (by simp) (by simp), e2 _ (by simp)]
  refine ⟨_, r1.1, ?_⟩
  refine ifB_eq (fun hk1 => ?_) (fun hk1 => ?_)
  · refine newTw_spec ?_
    intro X m3 ok3 kp3 in3 at3
    refine ⟨_, rfl, ?_⟩
    have s3 := d2.sep.new ok2 kp3 (k := (7, 0)) (o := twOb X) at3 in3
    have d3 := d2.other s3 (fun key hk => upd_lo (by simp) hk)
    refine newTw_spec ?_
    intro Y m4 ok4 kp4 in4 at4
    refine ⟨_, rfl, ?_⟩
    have s4 := d3.sep.new ok3 kp4 (k := (7, 1)) (o := twOb Y) at4 in4
    have d4 := d3.other s4 (fun key hk => upd_lo (by simp) hk)
    have g0 : (W2.upd (7, 0) (some (twOb X))).upd (7, 1) (some (twOb Y)) (7, 0) = some (twOb X) := by rw [Obs.upd_ne _ _ (by simp), Obs.upd_eq]
    have g1 : (W2.upd (7, 0) (some (twOb X))).upd (7, 1) (some (twOb Y)) (7, 1) = some (twOb Y) := Obs.upd_eq _ _ _
    have e4 : ∀ k : Key, k.1 ≠ 7 → (W2.upd (7, 0) (some (twOb X))).upd (7, 1) (some (twOb Y)) k = W2 k := fun k hk => by rw [Obs.upd_ne _ _ (fun h0 => by rw [h0] at hk; simp at hk), Obs.upd_ne _ _ (fun h0 => by rw [h0] at hk; simp at hk)]
    generalize (W2.upd (7, 0) (some (twOb X))).upd (7, 1) (some (twOb Y)) = W4 at d4 g0 g1 e4
    have rw4 := (d4.sep.p _ _ d4.kw).1
    refine ⟨_, _, _, rw4.1, ?_⟩
    refine d4.appX ok4 g0 hbx ?_
    intro W5 xa xc m5 ok5 x5 d5 e5
    have rw5 := (d5.sep.p _ _ d5.kw).1
    refine ⟨_, _, _, rw5.2.1, ?_⟩
    refine d5.appQ ok5 ((e5 (7, 1) (by simp) (by simp)).trans g1) (by dsimp only; omega) ?_
    intro W6 qa qc m6 ok6 x6 d6 e6
    refine hK.k W6 _ m6 ok6 ((((x2.trans kp3.ext).trans kp4.ext).trans x5).trans x6) d6 ?_ ?_ ?_ ?_ ?_
    · dsimp only
      unfold nxt
      rw [if_pos hk1]
      simp
    · dsimp only; simp [hql]
    · dsimp only; omega
    · intro j _; rw [e6 _ (by simp) (by simp), e5 _ (by simp) (by simp), e4 _ (by simp), e2 _ (by simp)]
    · rw [e6 _ (by simp) (by simp), e5 _ (by simp) (by simp), e4 _ (by simp), e2 _ (by simp)]
  refine ifB_eq (fun hk5 => ?_) (fun hk5 => ?_)
  · have hn : nxt (D.xs.length, D.ss.map p2) o = (D.xs.length, D.ss.map p2) := by
      unfold nxt
      rw [if_neg hk1, if_neg (fun h1 => by have := h1.1; omega)]
    refine ⟨_, _, _, rw2.2.2.1, ?_⟩
    refine ifB_gt (fun h0 => ?_) (fun h0 => ?_)
    · refine ⟨_, r1.2.1, _, _, _, rw2.2.2.1, ?_⟩
      have hq := gPk_lt (c := o.a) (n := D.ks.length) (by omega)
      obtain ⟨kp, hkp⟩ := get_some (l := D.ks) (i := gPk o.a D.ks.length) hq
      have tail : ∀ (m' : Mem) (b34 : Nat), m'.Ok → Kp [] m2 m' → m2.top ≤ b34 → RowAt m' b34 [.slice kp.ra kp.n kp.n, .slice kp.wa kp.n kp.n] → putTail (callOK Tryz.prog W0) b1 b34 K m' := by
        intro m' b34 ok' kp' hb' row'
        have d' := d2.loc (key := (9, 6)) ok2 kp' hb' row' (by simp)
        refine put_tail (o := o) ok' d' (by rw [Obs.upd_ne _ _ (by simp)]; exact l4) hkp (Obs.upd_eq _ _ _) hI.2 ?_
        intro W'' D'' m'' ok'' x'' d'' y1 y2 y3 y4 e''
        refine same W'' D'' m'' ok'' (kp'.ext.trans x'') d'' (by rw [y1]) (by rw [y2]) y3 y4 (fun k hk hk9 => ?_) hn
        rw [e'' k hk, Obs.upd_ne _ _ (fun h0 => by rw [h0] at hk9; simp at hk9)]
      have okk : EK.own m2 D.ka D.ks.length D.kc D.ks := d2.sep.p _ _ d2.kk
      rw [zero62]
      refine ⟨⟨_, _, _, rw2.2.2.1, ?_, ?_, trivial⟩, ?_, ?_, trivial⟩
      · refine tpick_spec (by omega) hI.1 ?_
        refine ⟨_, rfl, ?_⟩
        refine EK_get okk.sl hkp fun _ _ _ => ?_
        refine alloc_put ok2 (by simp) one2s (by simp) ?_
        intro b34 m3 hb34 _ ok3 kp3 row3 bn3
        exact tail m3 b34 ok3 kp3 hb34 ⟨row3, bn3⟩
      · refine alloc_row ok2 ?_
        intro b34 m3 hb34 _ ok3 kp3 row3 bn3
        refine tpick_spec (by omega) hI.1 ?_
        refine ⟨_, rfl, ?_⟩
        refine EK_get (okk.keep0 kp3).sl hkp fun _ _ _ => ?_
        refine stL_put ok3 bn3 (by simp) one2s (by simp) ?_
        intro m4 ok4 kp4 row4 bn4
        exact tail m4 b34 ok4 (kp3.step kp4 ok2 (fun b' hb' => .inr (by simp at hb'; omega))) hb34 ⟨row4, bn4⟩
      · refine tpick_spec (by omega) hI.1 ?_
        refine ⟨_, rfl, ?_⟩
        refine ⟨_, _, _, rw2.2.2.1, ?_⟩
        refine EK_get okk.sl hkp fun _ _ _ => ?_
        refine alloc_put ok2 (by simp) one2s (by simp) ?_
        intro b34 m3 hb34 _ ok3 kp3 row3 bn3
        exact tail m3 b34 ok3 kp3 hb34 ⟨row3, bn3⟩
      · refine alloc_row ok2 ?_
        intro b34 m3 hb34 _ ok3 kp3 row3 bn3
        have rw3 := kp3.row (by simp) rw2
        refine ⟨?_, ?_, trivial⟩
        · refine ⟨_, _, _, rw3.2.2.1, ?_⟩
          refine tpick_spec (by omega) hI.1 ?_
          refine ⟨_, rfl, ?_⟩
          refine EK_get (okk.keep0 kp3).sl hkp fun _ _ _ => ?_
          refine stL_put ok3 bn3 (by simp) one2s (by simp) ?_
          intro m4 ok4 kp4 row4 bn4
          exact tail m4 b34 ok4 (kp3.step kp4 ok2 (fun b' hb' => .inr (by simp at hb'; omega))) hb34 ⟨row4, bn4⟩
        · refine tpick_spec (by omega) hI.1 ?_
          refine ⟨_, rfl, ?_⟩
          refine ⟨_, _, _, rw3.2.2.1, ?_⟩
          refine EK_get (okk.keep0 kp3).sl hkp fun _ _ _ => ?_
          refine stL_put ok3 bn3 (by simp) one2s (by simp) ?_
          intro m4 ok4 kp4 row4 bn4
          exact tail m4 b34 ok4 (kp3.step kp4 ok2 (fun b' hb' => .inr (by simp at hb'; omega))) hb34 ⟨row4, bn4⟩
    · exact same W2 D m2 ok2 (Ext.refl _) d2 rfl rfl rfl rfl (fun _ _ _ => rfl) hn
  refine ⟨_, _, _, rw2.1, ?_⟩
  refine ifB_eq (fun h0 => ?_) (fun h0 => ?_)
  · refine same W2 D m2 ok2 (Ext.refl _) d2 rfl rfl rfl rfl (fun _ _ _ => rfl) ?_
    unfold nxt
    rw [if_neg hk1, if_neg (fun h1 => h1.2 (by dsimp only; omega))]
  have hx0 : D.xs.length ≠ 0 := by omega
  refine ⟨_, r1.2.1, _, _, _, rw2.1, ?_⟩
  refine tpick_spec (by omega) hI.1 ?_
  refine ⟨_, rfl, ?_⟩
  have hpk := gPk_lt (c := o.a) (n := D.xs.length) (by omega)
  generalize gPk o.a D.xs.length = q at hpk
  obtain ⟨T, hT⟩ := get_some (l := D.xs) (i := q) hpk
  obtain ⟨Qt, hQ⟩ := get_some (l := D.qs) (i := q) (by omega)
  have ownx : EP.own m2 D.xa D.xs.length D.xc (D.xs.map Tw.x) := d2.sep.p _ _ d2.kx
  have ownq : EP.own m2 D.qa D.qs.length D.qc (D.qs.map Tw.x) := d2.sep.p _ _ d2.kq
  refine ⟨_, _, _, rw2.1, ?_⟩
  refine EP_get ownx.sl (x := T.x) (by rw [List.getElem?_map, hT]; rfl) fun _ _ _ => ?_
  refine ⟨_, _, _, rw2.2.1, ?_⟩
  refine EP_get ownq.sl (x := Qt.x) (by rw [List.getElem?_map, hQ]; rfl) fun _ _ _ => ?_
  have atT : TwAt m2 T := d2.sep.p _ _ (d2.tx q T hT)
  have atQ : TwAt m2 Qt := d2.sep.p _ _ (d2.tq q Qt hQ)
  refine ⟨_, r1.1, ?_⟩
  refine ifB_eq (fun hk2 => ?_) (fun hk2 => ?_)
  · refine ⟨_, r1.2.2.2.2.1, ?_⟩
    refine ⟨_, r3.1, _, r3.2.1, _, r3.2.2.1, _, _, _, r3.2.2.2.1, _, r3.2.2.2.2.1, _, r3.2.2.2.2.2.1, _, r3.2.2.2.2.2.2.1, _, r3.2.2.2.2.2.2.2.1, _, r3.2.2.2.2.2.2.2.2.1, _, r3.2.2.2.2.2.2.2.2.2.1, ?_⟩
    have hsol := ht.sol hk2 hx0
    refine wsolve_spec d2 hT hQ hsol.1 (by rw [e2 _ (by simp)]; exact hsol.2) hbk hbs ?_
    intro W' D' m' pf ok' x' d' y1 y2 y3 y4 y5 e5 e8
    refine ⟨_, rfl, ?_⟩
    refine hK.k W' D' m' ok' (x2.trans x') d' ?_ ?_ y5 ?_ ?_
    · rw [y1, y3]
      unfold nxt
      rw [if_neg hk1, if_pos ⟨hk2, hx0⟩, List.map_append]
      simp [p2, y4]
    · rw [y1, y2, hql]
    · intro j hj; rw [e5 j hj, e2 _ (by simp)]
    · rw [e8, e2 _ (by simp)]
  have hn : nxt (D.xs.length, D.ss.map p2) o = (D.xs.length, D.ss.map p2) := by
    unfold nxt
    rw [if_neg hk1, if_neg (fun h1 => hk2 h1.1)]
  refine ifB_eq (fun hk3 => ?_) (fun hk3 => ?_)
  · have hv := ht.chk hk3 hx0
    refine ⟨_, r1.2.2.2.2.1, _, r1.2.2.2.2.2.1, ?_⟩
    refine ⟨_, r3.1, _, r3.2.1, _, r3.2.2.1, _, _, _, r3.2.2.2.1, _, r3.2.2.2.2.1, _, r3.2.2.2.2.2.1, _, r3.2.2.2.2.2.2.1, _, r3.2.2.2.2.2.2.2.1, _, r3.2.2.2.2.2.2.2.2.1, _, r3.2.2.2.2.2.2.2.2.2.1, ?_⟩
    refine xcheck_spec atT hv ?_
    intro T3 m3 ok3 kp3 nx3 at3 es3
    refine ⟨_, rfl, ?_⟩
    refine ifB_true ?_
    have s3 := d2.sep.turn ok2 (o' := twOb T3) (d2.tx q T hT) kp3 at3 nx3.ins
    have e3 : ∀ key : Key, key ≠ (1, q) → W2.upd (1, q) (some (twOb T3)) key = W2 key := fun key hk => Obs.upd_ne _ _ hk
    have d3 := d2.turnX hT nx3.x s3 (Obs.upd_eq _ _ _) (fun key _ h2 => e3 key h2)
    generalize W2.upd (1, q) (some (twOb T3)) = W3 at s3 d3 e3
    have r13 := (d3.sep.p _ _ ((e3 (9, 4) (by simp)).trans l4)).1
    have r33 := (d3.sep.p _ _ ((e3 (9, 5) (by simp)).trans l5)).1
    refine ⟨_, r13.2.2.2.2.1, _, r13.2.2.2.2.2.1, ?_⟩
    refine ⟨_, r33.1, _, r33.2.1, _, r33.2.2.1, _, _, _, r33.2.2.2.1, _, r33.2.2.2.2.1, _, r33.2.2.2.2.2.1, _, r33.2.2.2.2.2.2.1, _, r33.2.2.2.2.2.2.2.1, _, r33.2.2.2.2.2.2.2.2.1, _, r33.2.2.2.2.2.2.2.2.2.1, ?_⟩
    have at3q : TwAt m3 Qt := d3.sep.p _ _ (d3.tq q Qt hQ)
    refine xcheck_spec at3q hv ?_
    intro T4 m4 ok4 kp4 nx4 at4 es4
    refine ⟨_, rfl, ?_⟩
    have s4 := d3.sep.turn ok3 (o' := twOb T4) (d3.tq q Qt hQ) kp4 at4 nx4.ins
    have d4 := d3.turnQ hQ nx4.x s4 (Obs.upd_eq _ _ _) (fun key _ h2 => Obs.upd_ne _ _ h2)
    refine same _ _ m4 ok4 (kp3.ext.trans kp4.ext) d4 (by simp) (by simp) rfl rfl ?_ hn
    intro key hk _
    rw [Obs.upd_ne _ _ (fun h0 => by rw [h0] at hk; simp at hk)]
    exact e3 key (fun h0 => by rw [h0] at hk; simp at hk)
  refine ifB_eq (fun hk4 => ?_) (fun hk4 => ?_)
  · refine ⟨_, _, _, rw2.2.2.2.1, ?_⟩
    refine ifB_gt (fun h0 => ?_) (fun h0 => ?_)
    · refine ⟨_, r1.2.2.1, _, _, _, rw2.2.2.2.1, ?_⟩
      have hq := gPk_lt (c := o.b) (n := D.ss.length) (by omega)
      obtain ⟨x, hx⟩ := get_some (l := D.ss) (i := gPk o.b D.ss.length) hq
      have hne : D.ss.map p2 ≠ [] := fun h9 => by
        have : D.ss.length = 0 := by rw [← List.length_map (f := p2), h9]; rfl
        omega
      have hcl : csLast (D.xs.length, D.ss.map p2) o = p2 x := by
        unfold csLast
        dsimp only
        rw [List.length_map]
        simp [List.getD, hx]
      have hv := ht.lst hk4 hx0 hne
      rw [hcl] at hv
      have tail : ∀ (m' : Mem) (b34 : Nat), m'.Ok → Kp [] m2 m' → m2.top ≤ b34 → RowAt m' b34 [.string x.1, .string x.2] → lastTail (callOK Tryz.prog W0) b1 b3 b34 (some ⟨T.x, 0, none⟩) (some ⟨Qt.x, 0, none⟩) K m' := by
        intro m' b34 ok' kp' hb' row'
        have d' := d2.loc (key := (9, 6)) ok2 kp' hb' row' (by simp)
        refine last_tail (o := o) (τ := τ) (x := x) ok' d' (by rw [Obs.upd_ne _ _ (by simp)]; exact l4) (by rw [Obs.upd_ne _ _ (by simp)]; exact l5) (Obs.upd_eq _ _ _) hT hQ hv ?_
        intro W'' T'' Q'' m'' ok'' x'' d'' e''
        refine same W'' _ m'' ok'' (kp'.ext.trans x'') d'' (by simp) (by simp) rfl rfl (fun k hk hk9 => ?_) hn
        rw [e'' k hk, Obs.upd_ne _ _ (fun h0 => by rw [h0] at hk9; simp at hk9)]
      have okk : ES.own m2 D.sa D.ss.length D.sc D.ss := d2.sep.p _ _ d2.ks
      rw [zero58]
      refine ⟨⟨_, _, _, rw2.2.2.2.1, ?_, ?_, trivial⟩, ?_, ?_, trivial⟩
      · refine tpick_spec (by omega) hI.2 ?_
        refine ⟨_, rfl, ?_⟩
        refine ES_get okk.sl hx fun _ _ _ => ?_
        refine alloc_put ok2 (by simp) one2 (by simp) ?_
        intro b34 m3 hb34 _ ok3 kp3 row3 bn3
        exact tail m3 b34 ok3 kp3 hb34 ⟨row3, bn3⟩
      · refine alloc_row ok2 ?_
        intro b34 m3 hb34 _ ok3 kp3 row3 bn3
        refine tpick_spec (by omega) hI.2 ?_
        refine ⟨_, rfl, ?_⟩
        refine ES_get (okk.keep0 kp3).sl hx fun _ _ _ => ?_
        refine stL_put ok3 bn3 (by simp) one2 (by simp) ?_
        intro m4 ok4 kp4 row4 bn4
        exact tail m4 b34 ok4 (kp3.step kp4 ok2 (fun b' hb' => .inr (by simp at hb'; omega))) hb34 ⟨row4, bn4⟩
      · refine tpick_spec (by omega) hI.2 ?_
        refine ⟨_, rfl, ?_⟩
        refine ⟨_, _, _, rw2.2.2.2.1, ?_⟩
        refine ES_get okk.sl hx fun _ _ _ => ?_
        refine alloc_put ok2 (by simp) one2 (by simp) ?_
        intro b34 m3 hb34 _ ok3 kp3 row3 bn3
        exact tail m3 b34 ok3 kp3 hb34 ⟨row3, bn3⟩
      · refine alloc_row ok2 ?_
        intro b34 m3 hb34 _ ok3 kp3 row3 bn3
        have rw3 := kp3.row (by simp) rw2
        refine ⟨?_, ?_, trivial⟩
        · refine ⟨_, _, _, rw3.2.2.2.1, ?_⟩
          refine tpick_spec (by omega) hI.2 ?_
          refine ⟨_, rfl, ?_⟩
          refine ES_get (okk.keep0 kp3).sl hx fun _ _ _ => ?_
          refine stL_put ok3 bn3 (by simp) one2 (by simp) ?_
          intro m4 ok4 kp4 row4 bn4
          exact tail m4 b34 ok4 (kp3.step kp4 ok2 (fun b' hb' => .inr (by simp at hb'; omega))) hb34 ⟨row4, bn4⟩
        · refine tpick_spec (by omega) hI.2 ?_
          refine ⟨_, rfl, ?_⟩
          refine ⟨_, _, _, rw3.2.2.2.1, ?_⟩
          refine ES_get (okk.keep0 kp3).sl hx fun _ _ _ => ?_
          refine stL_put ok3 bn3 (by simp) one2 (by simp) ?_
          intro m4 ok4 kp4 row4 bn4
          exact tail m4 b34 ok4 (kp3.step kp4 ok2 (fun b' hb' => .inr (by simp at hb'; omega))) hb34 ⟨row4, bn4⟩
    · exact same W2 D m2 ok2 (Ext.refl _) d2 rfl rfl rfl rfl (fun _ _ _ => rfl) hn
  refine ifB_eq (fun hk6 => ?_) (fun hk6 => ?_)
  · refine ⟨_, atT.at_cell.2.2.2.1, ?_⟩
    refine tinv_spec atT ?_
    intro m3 ok3 kp3
    refine ⟨_, rfl, ?_⟩
    refine ifB_true ?_
    have atQ3 := atQ.keep kp3 (fun _ _ => by simp)
    refine ⟨_, atQ3.at_cell.2.2.2.1, ?_⟩
    refine tinv_spec atQ3 ?_
    intro m4 ok4 kp4
    refine ⟨_, rfl, ?_⟩
    exact same W2 D m4 ok4 (kp3.ext.trans kp4.ext) (d2.kp0 (kp3.trans kp4)) rfl rfl rfl rfl (fun _ _ _ => rfl) hn
  refine ifB_eq (fun hk7 => ?_) (fun hk7 => ?_)
  · refine ⟨_, atT.at_cell.2.2.2.2, ?_⟩
    refine tclean_spec atT ?_
    refine ⟨_, rfl, ?_⟩
    refine ifB_true ?_
    refine ⟨_, atQ.at_cell.2.2.2.2, ?_⟩
    refine tclean_spec atQ ?_
    refine ⟨_, rfl, ?_⟩
    exact same W2 D m2 ok2 (Ext.refl _) d2 rfl rfl rfl rfl (fun _ _ _ => rfl) hn
  exact same W2 D m2 ok2 (Ext.refl _) d2 rfl rfl rfl rfl (fun _ _ _ => rfl) hn
end Go.Proofs.Qxb6500974aGreat
