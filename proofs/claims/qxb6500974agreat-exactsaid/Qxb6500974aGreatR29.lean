import Derived.Test.Qxb6500974aGreatR28
set_option linter.all false
set_option linter.unusedSimpArgs false
set_option linter.unusedVariables false
namespace Go.Proofs.Qxb6500974aGreat
open Go.Eng
variable {W0 : World}

theorem map_set_x {xs : List Tw} {k : Nat} {T T' : Tw} (h : xs[k]? = some T) (hx : T'.x = T.x) : (xs.set k T').map Tw.x = xs.map Tw.x := by
  apply List.ext_getElem?
  intro i
  rw [List.getElem?_map, List.getElem?_map, List.getElem?_set]
  by_cases he : k = i
  · subst he
    have hk : k < xs.length := by
      rcases Nat.lt_or_ge k xs.length with h' | h'
      · exact h'
      · rw [List.getElem?_eq_none h'] at h; cases h
    rw [if_pos rfl, if_pos hk, h]
    simp [hx]
  · rw [if_neg he]
theorem get_set_x {xs : List Tw} {k i : Nat} {T T' : Tw} (h : (xs.set k T')[i]? = some T) : (i = k ∧ T = T') ∨ (i ≠ k ∧ xs[i]? = some T) := by
  rw [List.getElem?_set] at h
  by_cases he : k = i
  · subst he
    rw [if_pos rfl] at h
    split at h
    · cases h; exact .inl ⟨rfl, rfl⟩
    · cases h
  · rw [if_neg he] at h
    exact .inr ⟨Ne.symm he, h⟩
theorem WdAt.turnX {m m' : Mem} {w k : Nat} {W W' : Obs} {D : Wd} {T T' : Tw} (h : WdAt m w W D) (hk : D.xs[k]? = some T) (hx : T'.x = T.x) (hs : Sep m' W') (h1 : W' (1, k) = some (twOb T')) (he : ∀ key : Key, key.1 < 5 → key ≠ (1, k) → W' key = W key) :
    WdAt m' w W' { D with xs := D.xs.set k T' } := by
  refine ⟨hs, ?_, ?_, ?_, ?_, ?_, ?_, ?_, ?_⟩
  · rw [he _ (by simp) (by simp)]
    have : ({ D with xs := D.xs.set k T' } : Wd).cells = D.cells := by simp [Wd.cells]
    rw [this]; exact h.kw
  · rw [he _ (by simp) (by simp)]
    dsimp only
    rw [map_set_x hk hx, List.length_set]; exact h.kx
  · rw [he _ (by simp) (by simp)]; exact h.kq
  · rw [he _ (by simp) (by simp)]; exact h.kk
  · rw [he _ (by simp) (by simp)]; exact h.ks
  · intro i T0 hi
    rcases get_set_x hi with ⟨rfl, rfl⟩ | ⟨h2, h3⟩
    · exact h1
    · rw [he _ (by simp) (by simp [h2])]; exact h.tx i T0 h3
  · intro i T0 hi
    rw [he _ (by simp) (by simp)]; exact h.tq i T0 hi
  · intro i k0 hi
    rw [he _ (by simp) (by simp), he _ (by simp) (by simp)]; exact h.kr i k0 hi
theorem WdAt.turnQ {m m' : Mem} {w k : Nat} {W W' : Obs} {D : Wd} {T T' : Tw} (h : WdAt m w W D) (hk : D.qs[k]? = some T) (hx : T'.x = T.x) (hs : Sep m' W') (h1 : W' (2, k) = some (twOb T')) (he : ∀ key : Key, key.1 < 5 → key ≠ (2, k) → W' key = W key) :
    WdAt m' w W' { D with qs := D.qs.set k T' } := by
  refine ⟨hs, ?_, ?_, ?_, ?_, ?_, ?_, ?_, ?_⟩
  · rw [he _ (by simp) (by simp)]
    have : ({ D with qs := D.qs.set k T' } : Wd).cells = D.cells := by simp [Wd.cells]
    rw [this]; exact h.kw
  · rw [he _ (by simp) (by simp)]; exact h.kx
  · rw [he _ (by simp) (by simp)]
    dsimp only
    rw [map_set_x hk hx, List.length_set]; exact h.kq
  · rw [he _ (by simp) (by simp)]; exact h.kk
  · rw [he _ (by simp) (by simp)]; exact h.ks
  · intro i T0 hi
    rw [he _ (by simp) (by simp)]; exact h.tx i T0 hi
  · intro i T0 hi
    rcases get_set_x hi with ⟨rfl, rfl⟩ | ⟨h2, h3⟩
    · exact h1
    · rw [he _ (by simp) (by simp [h2])]; exact h.tq i T0 h3
  · intro i k0 hi
    rw [he _ (by simp) (by simp), he _ (by simp) (by simp)]; exact h.kr i k0 hi
theorem upd_lo {W : Obs} {key k : Key} {o : Option Ob} (hk : 5 ≤ key.1) (h : k.1 < 5) : W.upd key o k = W k := Obs.upd_ne _ _ (fun h0 => by rw [h0] at h; omega)
theorem WdAt.loc {m m' : Mem} {w b : Nat} {W : Obs} {D : Wd} {vs : List Value} {key : Key} (h : WdAt m w W D) (ok : m.Ok) (hk : Kp [] m m') (hb : m.top ≤ b) (hr : RowAt m' b vs) (hkey : 5 ≤ key.1) : WdAt m' w (W.upd key (some (rowOb b vs))) D :=
  h.other (h.sep.new ok hk (o := rowOb b vs) hr (fun x hx => .inr (by simp [rowOb] at hx; omega))) (fun k hk' => upd_lo hkey hk')
theorem setget {xs : List Tw} {k : Nat} {T T' : Tw} (h : xs[k]? = some T) : (xs.set k T')[k]? = some T' := by
  have hk : k < xs.length := by
    rcases Nat.lt_or_ge k xs.length with h' | h'
    · exact h'
    · rw [List.getElem?_eq_none h'] at h; cases h
  rw [List.getElem?_set, if_pos rfl, if_pos hk]

theorem WdAt.appS {m : Mem} {w : Nat} {W : Obs} {D : Wd} {s t : ByteArray} {K : Mem → Prop} (h : WdAt m w W D) (ok : m.Ok) (hb : D.ss.length ≤ 2 ^ 33)
    (hK : ∀ W' a c m', m'.Ok → Ext m m' → WdAt m' w W' { D with ss := D.ss ++ [(s, t)], sa := a, sc := c } → (∀ k : Key, 5 ≤ k.1 → W' k = W k) → K m') :
    allocB m (Blk.ofList [(.string s), (.string t)]) fun b m5 => rdRow m5 (some ⟨b, 0, none⟩) (1 * 2) fun r => appendC m5 2 32 [(.string (ByteArray.mk #[])), (.string (ByteArray.mk #[]))] D.sa D.ss.length D.sc 1 r fun a' c' m' => st m' w 3 (.slice a' (D.ss.length + 1) c') fun m12 => K m12 := by
  have hl : ES.own m D.sa D.ss.length D.sc D.ss := h.sep.p _ _ h.ks
  refine Elt.app1 (E := ES) (x := (s, t)) ok hl rfl rfl rfl (by omega) (by omega) ?_
  intro a' c' m6 ok6 kp6 own6 in6
  have s6 := h.sep.turn ok (k := (0, 4)) (o := ownOb ES D.sa D.ss.length D.sc D.ss) (o' := ownOb ES a' (D.ss.length + 1) c' (D.ss ++ [(s, t)])) h.ks kp6 own6 in6
  have w3 : W.upd (0, 4) (some (ownOb ES a' (D.ss.length + 1) c' (D.ss ++ [(s, t)]))) (0, 0) = some (rowOb w D.cells) := by rw [Obs.upd_ne _ _ (by simp)]; exact h.kw
  have hrow6 : RowAt m6 w D.cells := s6.p _ _ w3
  refine hrow6.st ok6 (by simp [Wd.cells]) ?_
  intro m7 ok7 kp7 row7
  have ecells : D.cells.set 3 (.slice a' (D.ss.length + 1) c') = ({ D with ss := D.ss ++ [(s, t)], sa := a', sc := c' } : Wd).cells := by
    simp [Wd.cells]
  rw [ecells] at row7
  have s7 := s6.turn ok6 w3 (o' := rowOb w ({ D with ss := D.ss ++ [(s, t)], sa := a', sc := c' } : Wd).cells) kp7 row7 (InS.self _ _)
  have e7 : ∀ k : Key, k ≠ (0, 4) → k ≠ (0, 0) → (W.upd (0, 4) (some (ownOb ES a' (D.ss.length + 1) c' (D.ss ++ [(s, t)])))).upd (0, 0) (some (rowOb w ({ D with ss := D.ss ++ [(s, t)], sa := a', sc := c' } : Wd).cells)) k = W k := by
    intro k h1 h2
    rw [Obs.upd_ne _ _ h2, Obs.upd_ne _ _ h1]
  refine hK _ a' c' m7 ok7 (kp6.ext.trans kp7.ext) ⟨s7, Obs.upd_eq _ _ _, ?_, ?_, ?_, ?_, ?_, ?_, ?_⟩ ?_
  · rw [e7 _ (by simp) (by simp)]; exact h.kx
  · rw [e7 _ (by simp) (by simp)]; exact h.kq
  · rw [e7 _ (by simp) (by simp)]; exact h.kk
  · rw [Obs.upd_ne _ _ (by simp), Obs.upd_eq]; simp
  · intro i T hi; rw [e7 _ (by simp) (by simp)]; exact h.tx i T hi
  · intro i T hi; rw [e7 _ (by simp) (by simp)]; exact h.tq i T hi
  · intro i k hi; rw [e7 _ (by simp) (by simp), e7 _ (by simp) (by simp)]; exact h.kr i k hi
  · intro k hk
    refine e7 k ?_ ?_
    all_goals intro h0; rw [h0] at hk; simp at hk

structure ToldA (τ : Told) (A : Ans) : Prop where
  e : τ.e = A.err
  p : τ.p = A.pos
  sat : τ.sat = A.sat
  pf : bts τ.pf = A.proof
  conf : τ.conf = A.conf
  rest : τ.rest = A.rest
  a : τ.a = none ↔ A.model = []
theorem nil_iff {a b : Option Addr} {P : Prop} (h1 : a = none ↔ P) (h2 : b = none ↔ P) : (a.isNone == b.isNone) = true := by
  cases a with
  | none => cases b with
    | none => rfl
    | some y => have := h2.2 (h1.1 rfl); cases this
  | some x => cases b with
    | none => have := h1.2 (h2.1 rfl); cases this
    | some y => rfl
theorem wsolve_spec {w k j : Nat} {W : Obs} {D : Wd} {T Qt : Tw} {text : ByteArray} {τ : Told} {K : Value → Mem → Prop} {m : Mem} (h : WdAt m w W D) (hx : D.xs[k]? = some T) (hq : D.qs[k]? = some Qt) (hτ : ToldA τ (gA (bts text)))
    (hj : W (5, j) = some (ownOb EI τ.a τ.n τ.n (gA (bts text)).model)) (hks : D.ks.length + 4 ≤ 2 ^ 33) (hss : D.ss.length ≤ 2 ^ 33)
    (hK : ∀ W' D' m' pf, m'.Ok → Ext m m' → WdAt m' w W' D' → D'.xs.length = D.xs.length → D'.qs.length = D.qs.length → D'.ss = D.ss ++ [(text, pf)] → bts pf = (gA (bts text)).proof → D'.ks.length ≤ D.ks.length + 4 → (∀ i, i ≠ j → W' (5, i) = W (5, i)) → W' (8, 0) = W (8, 0) → K (.bool true) m') :
    callOK Tryz.prog W0 14 [ptr w 0, ptr T.x 0, ptr Qt.x 0, .string text, .agg #[(.int .i64 τ.e), (.int .i64 τ.p), (.bool τ.sat), (.slice τ.a τ.n τ.n), (.string τ.pf), (.int .i64 τ.conf), (.int .i64 τ.rest), (.int .i64 τ.v.1), (.int .i64 τ.v.2.1), (.int .i64 τ.v.2.2)]] K m := by
  refine callOK_ok fun ok => call14 ?_
  have hml := gA_model_len (bts text)
  unfold s14
  rw [zero39]
  obtain ⟨te, tp, tsat, tpf, tconf, trest, ta⟩ := hτ
  rw [te, tp, tsat, tconf, trest]
  generalize hA : gA (bts text) = A at tpf ta hj hK hml
  refine alloc_row ok ?_
  intro b1 m1 hb1 hlt1 ok1 kp1 row1 bn1
  have d1 := h.loc (key := (9, 0)) ok kp1 hb1 ⟨row1, bn1⟩ (by simp)
  generalize hW1 : W.upd (9, 0) _ = W1 at d1
  have tx1 : TwAt m1 T := d1.sep.p _ _ (d1.tx k T hx)
  refine ⟨_, tx1.at_cell.2.2.2.1, ?_⟩
  refine tsolve_spec tx1 ?_
  rw [hA]
  intro T2 a2 n2 pf2 m2 ok2 kp2 nx2 at2 eσ2 eS2 in2 nd2 mv2 hp2
  refine ⟨_, _, _, _, _, _, _, _, _, rfl, ?_⟩
  have s2 := d1.sep.turnNew ok1 (k2 := (6, 0)) (o' := twOb T2) (o2 := ownOb EI a2 n2 n2 A.model) (d1.tx k T hx) kp2 at2 nx2.ins mv2.1 in2 nd2
  generalize hW2 : (W1.upd (1, k) (some (twOb T2))).upd (6, 0) (some (ownOb EI a2 n2 n2 A.model)) = W2 at s2
  have d2 := d1.turnX hx nx2.x s2 (by rw [← hW2, Obs.upd_ne _ _ (by simp), Obs.upd_eq]) (fun key h1 h2 => by rw [← hW2, upd_lo (by simp) h1, Obs.upd_ne _ _ h2])
  refine alloc_put ok2 (by simp) one7 (by simp) ?_
  intro b3 m3 hb3 hlt3 ok3 kp3 row3 bn3
  have d3 := d2.loc (key := (9, 1)) ok2 kp3 hb3 ⟨row3, bn3⟩ (by simp)
  generalize hW3 : W2.upd (9, 1) _ = W3 at d3
  have tq3 : TwAt m3 Qt := d3.sep.p _ _ (d3.tq k Qt hq)
  refine ⟨_, tq3.at_cell.2.2.2.1, ?_⟩
  refine tsolve_spec tq3 ?_
  rw [hA]
  intro T4 a4 n4 pf4 m4 ok4 kp4 nx4 at4 eσ4 eS4 in4 nd4 mv4 hp4
  refine ⟨_, _, _, _, _, _, _, _, _, rfl, ?_⟩
  have s4 := d3.sep.turnNew ok3 (k2 := (6, 1)) (o' := twOb T4) (o2 := ownOb EI a4 n4 n4 A.model) (d3.tq k Qt hq) kp4 at4 nx4.ins mv4.1 in4 nd4
  generalize hW4 : (W3.upd (2, k) (some (twOb T4))).upd (6, 1) (some (ownOb EI a4 n4 n4 A.model)) = W4 at s4
  have d4 := d3.turnQ hq nx4.x s4 (by rw [← hW4, Obs.upd_ne _ _ (by simp), Obs.upd_eq]) (fun key h1 h2 => by rw [← hW4, upd_lo (by simp) h1, Obs.upd_ne _ _ h2])
  refine alloc_put ok4 (by simp) one7 (by simp) ?_
  intro b5 m5 hb5 hlt5 ok5 kp5 row5 bn5
  have d5 := d4.loc (key := (9, 2)) ok4 kp5 hb5 ⟨row5, bn5⟩ (by simp)
  generalize hW5 : W4.upd (9, 2) _ = W5 at d5
  refine newTw_spec ?_
  intro Y m6 ok6 kp6 in6 at6
  refine ⟨_, rfl, ?_⟩
  have s6 := d5.sep.new ok5 kp6 (k := (7, 0)) (o := twOb Y) at6 in6
  generalize hW6 : W5.upd (7, 0) (some (twOb Y)) = W6 at s6
  have d6 := d5.other s6 (fun key h1 => by rw [← hW6, upd_lo (by simp) h1])
  refine ⟨_, at6.at_cell.2.2.2.1, ?_⟩
  refine tsolve_spec at6 ?_
  rw [hA]
  intro Y2 a7 n7 pf7 m7 ok7 kp7 nx7 at7 eσ7 eS7 in7 nd7 mv7 hp7
  refine ⟨_, _, _, _, _, _, _, _, _, rfl, ?_⟩
  have s7 := d6.sep.turnNew ok6 (k := (7, 0)) (k2 := (6, 2)) (o := twOb Y) (o' := twOb Y2) (o2 := ownOb EI a7 n7 n7 A.model) (by rw [← hW6, Obs.upd_eq]) kp7 at7 nx7.ins mv7.1 in7 nd7
  generalize hW7 : (W6.upd (7, 0) (some (twOb Y2))).upd (6, 2) (some (ownOb EI a7 n7 n7 A.model)) = W7 at s7
  have d7 := d6.other s7 (fun key h1 => by rw [← hW7, upd_lo (by simp) h1, upd_lo (by simp) h1])
  refine alloc_put ok7 (by simp) one7 (by simp) ?_
  intro b8 m8 hb8 hlt8 ok8 kp8 row8 bn8
  have d8 := d7.loc (key := (9, 3)) ok7 kp8 hb8 ⟨row8, bn8⟩ (by simp)
  generalize hW8 : W7.upd (9, 3) _ = W8 at d8
  have x8 : Ext m m8 := ((((((kp1.ext.trans kp2.ext).trans kp3.ext).trans kp4.ext).trans kp5.ext).trans kp6.ext).trans kp7.ext).trans kp8.ext
  have l0 : W8 (9, 0) = some (rowOb b1 [(.int .i64 A.err), (.int .i64 A.pos), (.bool A.sat), (.slice τ.a τ.n τ.n), (.string τ.pf), (.int .i64 A.conf), (.int .i64 A.rest), (.int .i64 τ.v.1), (.int .i64 τ.v.2.1), (.int .i64 τ.v.2.2)]) := by simp [← hW8, ← hW7, ← hW6, ← hW5, ← hW4, ← hW3, ← hW2, ← hW1, Obs.upd]
  have l1 : W8 (9, 1) = some (rowOb b3 [(.int .i64 A.err), (.int .i64 A.pos), (.bool A.sat), (.slice a2 n2 n2), (.string pf2), (.int .i64 A.conf), (.int .i64 A.rest)]) := by simp [← hW8, ← hW7, ← hW6, ← hW5, ← hW4, ← hW3, ← hW2, ← hW1, Obs.upd]
  have l2 : W8 (9, 2) = some (rowOb b5 [(.int .i64 A.err), (.int .i64 A.pos), (.bool A.sat), (.slice a4 n4 n4), (.string pf4), (.int .i64 A.conf), (.int .i64 A.rest)]) := by simp [← hW8, ← hW7, ← hW6, ← hW5, ← hW4, ← hW3, ← hW2, ← hW1, Obs.upd]
  have l3 : W8 (9, 3) = some (rowOb b8 [(.int .i64 A.err), (.int .i64 A.pos), (.bool A.sat), (.slice a7 n7 n7), (.string pf7), (.int .i64 A.conf), (.int .i64 A.rest)]) := by simp [← hW8, ← hW7, ← hW6, ← hW5, ← hW4, ← hW3, ← hW2, ← hW1, Obs.upd]
  have o0 : W8 (6, 0) = some (ownOb EI a2 n2 n2 A.model) := by simp [← hW8, ← hW7, ← hW6, ← hW5, ← hW4, ← hW3, ← hW2, ← hW1, Obs.upd]
  have o1 : W8 (6, 1) = some (ownOb EI a4 n4 n4 A.model) := by simp [← hW8, ← hW7, ← hW6, ← hW5, ← hW4, ← hW3, ← hW2, ← hW1, Obs.upd]
  have o2 : W8 (6, 2) = some (ownOb EI a7 n7 n7 A.model) := by simp [← hW8, ← hW7, ← hW6, ← hW5, ← hW4, ← hW3, ← hW2, ← hW1, Obs.upd]
  have o5 : ∀ i, W8 (5, i) = W (5, i) := by intro i; simp [← hW8, ← hW7, ← hW6, ← hW5, ← hW4, ← hW3, ← hW2, ← hW1, Obs.upd]
  have o8 : W8 (8, 0) = W (8, 0) := by simp [← hW8, ← hW7, ← hW6, ← hW5, ← hW4, ← hW3, ← hW2, ← hW1, Obs.upd]
  clear hW1 hW2 hW3 hW4 hW5 hW6 hW7 hW8
  have hj8 : W8 (5, j) = some (ownOb EI τ.a τ.n τ.n A.model) := by rw [o5]; exact hj
  have q0 := (d8.sep.p _ _ l0).1
  have q1 := (d8.sep.p _ _ l1).1
  have w0 : OwnI m8 a2 n2 n2 A.model := d8.sep.p _ _ o0
  have w1 : OwnI m8 a4 n4 n4 A.model := d8.sep.p _ _ o1
  have w2 : OwnI m8 a7 n7 n7 A.model := d8.sep.p _ _ o2
  have w5 : OwnI m8 τ.a τ.n τ.n A.model := d8.sep.p _ _ hj8
  refine ⟨_, q1.1, _, q1.2.1, _, q1.2.2.1, _, _, _, q1.2.2.2.1, _, q1.2.2.2.2.1, _, q1.2.2.2.2.2.1, _, q1.2.2.2.2.2.2.1, ?_⟩
  refine ⟨_, q0.1, _, q0.2.1, _, q0.2.2.1, _, _, _, q0.2.2.2.1, _, q0.2.2.2.2.1, _, q0.2.2.2.2.2.1, _, q0.2.2.2.2.2.2.1, ?_⟩
  refine sameAnswer_spec w0.sl w5.sl (by omega) (by rw [hp2, tpf]) ?_
  intro m9 ok9 kp9
  refine ⟨_, rfl, ?_⟩
  refine ifB_not (fun h0 => by simp at h0) (fun _ => ?_)
  have q91 := kp9.row (by simp) q1
  have q93 := kp9.row (by simp) (d8.sep.p _ _ l3).1
  refine ⟨_, q91.1, _, q91.2.1, _, q91.2.2.1, _, _, _, q91.2.2.2.1, _, q91.2.2.2.2.1, _, q91.2.2.2.2.2.1, _, q91.2.2.2.2.2.2.1, ?_⟩
  refine ⟨_, q93.1, _, q93.2.1, _, q93.2.2.1, _, _, _, q93.2.2.2.1, _, q93.2.2.2.2.1, _, q93.2.2.2.2.2.1, _, q93.2.2.2.2.2.2.1, ?_⟩
  refine sameAnswer_spec (w0.keep0 kp9).sl (w2.keep0 kp9).sl (by omega) (by rw [hp2, hp7]) ?_
  intro m10 ok10 kp10
  refine ⟨_, rfl, ?_⟩
  refine ifB_not (fun h0 => by simp at h0) (fun _ => ?_)
  have kp910 := kp9.trans kp10
  have q102 := kp910.row (by simp) (d8.sep.p _ _ l2).1
  have q103 := kp10.row (by simp) q93
  refine ⟨_, q102.1, _, q102.2.1, _, q102.2.2.1, _, _, _, q102.2.2.2.1, _, q102.2.2.2.2.1, _, q102.2.2.2.2.2.1, _, q102.2.2.2.2.2.2.1, ?_⟩
  refine ⟨_, q103.1, _, q103.2.1, _, q103.2.2.1, _, _, _, q103.2.2.2.1, _, q103.2.2.2.2.1, _, q103.2.2.2.2.2.1, _, q103.2.2.2.2.2.2.1, ?_⟩
  refine sameAnswer_spec (w1.keep0 kp910).sl (w2.keep0 kp910).sl (by omega) (by rw [hp4, hp7]) ?_
  intro m11 ok11 kp11
  refine ⟨_, rfl, ?_⟩
  refine ifB_not (fun h0 => by simp at h0) (fun _ => ?_)
  have kk11 := kp910.trans kp11
  have d11 := d8.kp0 kk11
  have x11 := x8.trans kk11.ext
  have q111 := (d11.sep.p _ _ l1).1
  have q112 := (d11.sep.p _ _ l2).1
  have q113 := (d11.sep.p _ _ l3).1
  refine ⟨_, _, _, q111.2.2.2.1, _, _, _, q113.2.2.2.1, ?_⟩
  refine ifB_not (fun h0 => ?_) (fun _ => ?_)
  · rw [nil_iff mv2.2 mv7.2] at h0
    cases h0
  refine ⟨_, _, _, q112.2.2.2.1, _, _, _, q113.2.2.2.1, ?_⟩
  refine ifB_not (fun h0 => ?_) (fun _ => ?_)
  · rw [nil_iff mv4.2 mv7.2] at h0
    cases h0
  refine ⟨_, _, _, q111.2.2.2.1, _, _, _, q111.2.2.2.1, ?_⟩
  refine ifB_ne (fun h0 => ?_) (fun _ => ?_)
  · have hF : False := h0 rfl
    cases hF
  refine ⟨_, _, _, q112.2.2.2.1, _, _, _, q112.2.2.2.1, ?_⟩
  refine ifB_ne (fun h0 => ?_) (fun _ => ?_)
  · have hF : False := h0 rfl
    cases hF
  refine ⟨_, _, _, q113.2.2.2.1, _, _, _, q113.2.2.2.1, ?_⟩
  refine ifB_ne (fun h0 => ?_) (fun _ => ?_)
  · have hF : False := h0 rfl
    cases hF
  refine ⟨_, q111.1, _, q111.2.1, _, q111.2.2.1, _, _, _, q111.2.2.2.1, _, q111.2.2.2.2.1, _, q111.2.2.2.2.2.1, _, q111.2.2.2.2.2.2.1, ?_⟩
  have hx11 : (D.xs.set k T2)[k]? = some T2 := setget hx
  have tw11 : TwAt m11 T2 := d11.sep.p _ _ (d11.tx k T2 hx11)
  rw [← nx2.x, ← hA]
  refine judged_spec tw11 ⟨_, eσ2⟩ ⟨by rw [hA]; exact w0.keep0 kk11, by rw [hA]; exact mv2.2⟩ (by rw [hA]; exact hp2) ?_
  intro T12 m12 ok12 kp12 nx12 at12 es12
  refine ⟨_, rfl, ?_⟩
  refine ifB_not (fun h0 => by simp at h0) (fun _ => ?_)
  have s12 := d11.sep.turn ok11 (o' := twOb T12) (d11.tx k T2 hx11) kp12 at12 nx12.ins
  have d12 := d11.turnX hx11 nx12.x s12 (Obs.upd_eq _ _ _) (fun key h1 h2 => Obs.upd_ne _ _ h2)
  have x12 := x11.trans kp12.ext
  have e12 : ∀ key : Key, 5 ≤ key.1 → W8.upd (1, k) (some (twOb T12)) key = W8 key := fun key hk => Obs.upd_ne _ _ (fun h0 => by rw [h0] at hk; simp at hk)
  generalize W8.upd (1, k) (some (twOb T12)) = V0 at d12 e12
  dsimp only at d12
  generalize hD12 : ({ D with xs := (D.xs.set k T2).set k T12, qs := D.qs.set k T4 } : Wd) = D12 at d12
  have y1 : D12.xs.length = D.xs.length := by rw [← hD12]; simp
  have y2 : D12.qs.length = D.qs.length := by rw [← hD12]; simp
  have y3 : D12.ss = D.ss := by rw [← hD12]
  have y4 : D12.ks.length = D.ks.length := by rw [← hD12]
  have g0 : V0 (6, 0) = some (ownOb EI a2 n2 n2 A.model) := by rw [e12 _ (by simp)]; exact o0
  have g1 : V0 (6, 1) = some (ownOb EI a4 n4 n4 A.model) := by rw [e12 _ (by simp)]; exact o1
  have g2 : V0 (6, 2) = some (ownOb EI a7 n7 n7 A.model) := by rw [e12 _ (by simp)]; exact o2
  have g5 : V0 (5, j) = some (ownOb EI τ.a τ.n τ.n A.model) := by rw [e12 _ (by simp)]; exact hj8
  have g90 := (e12 (9, 0) (by simp)).trans l0
  have g91 := (e12 (9, 1) (by simp)).trans l1
  have g92 := (e12 (9, 2) (by simp)).trans l2
  have g93 := (e12 (9, 3) (by simp)).trans l3
  have z12 := (d12.sep.p _ _ g91).1
  refine ⟨_, _, _, z12.2.2.2.1, ?_⟩
  refine keep_spec d12 g0 (by simp) hml mv2.2 (by omega) ?_
  intro V1 D13 m13 ok13 x13 d13 u1 u2 u3 u4 e13
  refine ⟨rfl, ?_⟩
  have z13 := (d13.sep.p _ _ ((e13 (9, 2) (by simp) (by simp)).trans g92)).1
  refine ⟨_, _, _, z13.2.2.2.1, ?_⟩
  refine keep_spec d13 ((e13 (6, 1) (by simp) (by simp)).trans g1) (by simp) hml mv4.2 (by omega) ?_
  intro V2 D14 m14 ok14 x14 d14 v1 v2 v3 v4 e14
  refine ⟨rfl, ?_⟩
  have f14 : ∀ key : Key, 5 ≤ key.1 → key ≠ (6, 0) → key ≠ (6, 1) → V2 key = V0 key := fun key h1 h2 h3 => (e14 key h1 h3).trans (e13 key h1 h2)
  have z14 := (d14.sep.p _ _ ((f14 (9, 3) (by simp) (by simp) (by simp)).trans g93)).1
  refine ⟨_, _, _, z14.2.2.2.1, ?_⟩
  refine keep_spec d14 ((f14 (6, 2) (by simp) (by simp) (by simp)).trans g2) (by simp) hml mv7.2 (by omega) ?_
  intro V3 D15 m15 ok15 x15 d15 r1 r2 r3 r4 e15
  refine ⟨rfl, ?_⟩
  have f15 : ∀ key : Key, 5 ≤ key.1 → key.1 ≠ 6 → V3 key = V0 key := fun key h1 h2 => (e15 key h1 (fun h0 => by rw [h0] at h2; simp at h2)).trans (f14 key h1 (fun h0 => by rw [h0] at h2; simp at h2) (fun h0 => by rw [h0] at h2; simp at h2))
  have z15 := (d15.sep.p _ _ ((f15 (9, 0) (by simp) (by simp)).trans g90)).1
  refine ⟨_, _, _, z15.2.2.2.1, ?_⟩
  refine keep_spec d15 ((f15 (5, j) (by simp) (by simp)).trans g5) (by simp) hml ta (by omega) ?_
  intro V4 D16 m16 ok16 x16 d16 p1 p2 p3 p4 e16
  refine ⟨rfl, ?_⟩
  have hrow : RowAt m16 w D16.cells := d16.sep.p _ _ d16.kw
  refine ⟨_, _, _, hrow.1.2.2.2.1, ?_⟩
  have z16 := (d16.sep.p _ _ ((e16 (9, 1) (by simp) (by simp)).trans ((f15 (9, 1) (by simp) (by simp)).trans g91))).1
  refine ⟨_, z16.2.2.2.2.1, ?_⟩
  have ess : D16.ss = D.ss := by rw [p3, r3, v3, u3, y3]
  refine d16.appS ok16 (by rw [ess]; exact hss) ?_
  intro V5 sa sc m17 ok17 x17 d17 e17
  refine hK V5 _ m17 pf2 ok17 (((((x12.trans x13).trans x14).trans x15).trans x16).trans x17) d17 ?_ ?_ ?_ hp2 ?_ ?_ ?_
  · dsimp only; rw [p1, r1, v1, u1, y1]
  · dsimp only; rw [p2, r2, v2, u2, y2]
  · dsimp only; rw [ess]
  · dsimp only; omega
  · intro i hi
    rw [e17 _ (by simp), e16 _ (by simp) (by simp [hi]), f15 _ (by simp) (by simp), e12 _ (by simp), o5]
  · rw [e17 _ (by simp), e16 _ (by simp) (by simp), f15 _ (by simp) (by simp), e12 _ (by simp), o8]
end Go.Proofs.Qxb6500974aGreat
