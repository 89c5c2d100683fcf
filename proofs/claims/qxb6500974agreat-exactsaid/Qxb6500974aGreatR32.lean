import Derived.Test.Qxb6500974aGreatR31
set_option linter.all false
set_option linter.unusedSimpArgs false
set_option linter.unusedVariables false
namespace Go.Proofs.Qxb6500974aGreat
open Go.Eng
variable {W0 : World}

def putTail (C : CallT) (b_1 b_34 : Nat) (K : Value → Mem → Prop) (m_36 : Mem) : Prop :=
  ldSl m_36 b_34 0 fun l_37a l_37l l_37c =>
  ifB (decide (((l_37l : Nat) : Int) > 0))
  (ldInt .i64 m_36 b_1 2 fun x_38 =>
  ldSl m_36 b_34 0 fun l_39a l_39l l_39c =>
  C 10 [(.int .i64 x_38), (.int .i64 ((l_39l : Nat) : Int))] (fun rm_41 m_41 =>
  ∃ x_40, rm_41 = (.int .i64 x_40) ∧
  ldSl m_41 b_34 0 fun l_42a l_42l l_42c =>
  ldInt .i64 m_41 b_1 3 fun x_43 =>
  ckP l_42a fun b_44 o_44 =>
  ckI x_40 l_42l fun j_45 =>
  st m_41 b_44 (o_44 + j_45) (.int .i64 x_43) fun m_46 =>
  ldSl m_46 b_34 1 fun l_47a l_47l l_47c =>
  ldInt .i64 m_46 b_1 3 fun x_48 =>
  ckP l_47a fun b_49 o_49 =>
  ckI x_40 l_47l fun j_50 =>
  st m_46 b_49 (o_49 + j_50) (.int .i64 x_48) fun m_51 =>
  K (.bool true) m_51) m_36)
  (K (.bool true) m_36)
def lastTail (C : CallT) (b_1 b_3 b_214 : Nat) (p_157 p_161 : Option Addr) (K : Value → Mem → Prop) (m_216 : Mem) : Prop :=
  ldStr m_216 b_214 1 fun s_217 =>
  ldInt .i64 m_216 b_1 3 fun x_218 =>
  C 13 [(.string s_217), (.int .i64 x_218), (.int .i64 1)] (fun rm_220 m_220 =>
  ∃ x_219, rm_220 = (.string x_219) ∧
  ldStr m_220 b_214 0 fun s_221 =>
  ldInt .i64 m_220 b_3 0 fun x_222 =>
  ldInt .i64 m_220 b_3 1 fun x_223 =>
  ldBool m_220 b_3 2 fun y_224 =>
  ldSl m_220 b_3 3 fun l_225a l_225l l_225c =>
  ldStr m_220 b_3 4 fun s_226 =>
  ldInt .i64 m_220 b_3 5 fun x_227 =>
  ldInt .i64 m_220 b_3 6 fun x_228 =>
  ldInt .i64 m_220 b_3 7 fun x_229 =>
  ldInt .i64 m_220 b_3 8 fun x_230 =>
  ldInt .i64 m_220 b_3 9 fun x_231 =>
  C 15 [(.pointer p_157), (.string s_221), (.string x_219), (.agg #[(.int .i64 x_222), (.int .i64 x_223), (.bool y_224), (.slice l_225a l_225l l_225c), (.string s_226), (.int .i64 x_227), (.int .i64 x_228), (.int .i64 x_229), (.int .i64 x_230), (.int .i64 x_231)])] (fun rm_233 m_233 =>
  ∃ x_232, rm_233 = (.bool x_232) ∧
  ifB x_232
  (ldStr m_233 b_214 0 fun s_234 =>
  ldInt .i64 m_233 b_3 0 fun x_235 =>
  ldInt .i64 m_233 b_3 1 fun x_236 =>
  ldBool m_233 b_3 2 fun y_237 =>
  ldSl m_233 b_3 3 fun l_238a l_238l l_238c =>
  ldStr m_233 b_3 4 fun s_239 =>
  ldInt .i64 m_233 b_3 5 fun x_240 =>
  ldInt .i64 m_233 b_3 6 fun x_241 =>
  ldInt .i64 m_233 b_3 7 fun x_242 =>
  ldInt .i64 m_233 b_3 8 fun x_243 =>
  ldInt .i64 m_233 b_3 9 fun x_244 =>
  C 15 [(.pointer p_161), (.string s_234), (.string x_219), (.agg #[(.int .i64 x_235), (.int .i64 x_236), (.bool y_237), (.slice l_238a l_238l l_238c), (.string s_239), (.int .i64 x_240), (.int .i64 x_241), (.int .i64 x_242), (.int .i64 x_243), (.int .i64 x_244)])] (fun rm_246 m_246 =>
  ∃ x_245, rm_246 = (.bool x_245) ∧
  K (.bool x_245) m_246) m_233)
  (K (.bool false) m_233)) m_220) m_216
theorem reps_swap {m : Mem} {k k' : Kpt} (hk : k'.ra = k.ra ∧ k'.wa = k.wa ∧ k'.n = k.n) : ∀ {css : List (List Value)} {L : List Kpt} {j : Nat}, EK.reps m css L → L[j]? = some k → EK.reps m css (L.set j k')
  | [], [], j, h, hj => by simp at hj
  | c :: css, y :: L, 0, h, hj => by
    simp at hj
    subst hj
    refine ⟨?_, h.2⟩
    have h1 : c = _ := h.1
    show c = [.slice k'.ra k'.n k'.n, .slice k'.wa k'.n k'.n]
    rw [hk.1, hk.2.1, hk.2.2]; exact h1
  | c :: css, y :: L, j + 1, h, hj => ⟨h.1, reps_swap hk h.2 (by simpa using hj)⟩
  | [], _ :: _, _, h, _ => h.elim
  | _ :: _, [], _, h, _ => h.elim
theorem own_swap {m : Mem} {a : Option Addr} {n c j : Nat} {L : List Kpt} {k k' : Kpt} (h : EK.own m a n c L) (hj : L[j]? = some k) (hk : k'.ra = k.ra ∧ k'.wa = k.wa ∧ k'.n = k.n) : EK.own m a n c (L.set j k') := by
  obtain ⟨h1, css, h2, h3⟩ := h
  exact ⟨by rw [List.length_set]; exact h1, css, h2, reps_swap hk h3 hj⟩
theorem kget_set {xs : List Kpt} {k i : Nat} {T T' : Kpt} (h : (xs.set k T')[i]? = some T) : (i = k ∧ T = T') ∨ (i ≠ k ∧ xs[i]? = some T) := by
  rw [List.getElem?_set] at h
  by_cases he : k = i
  · subst he
    rw [if_pos rfl] at h
    split at h
    · cases h; exact .inl ⟨rfl, rfl⟩
    · cases h
  · rw [if_neg he] at h
    exact .inr ⟨Ne.symm he, h⟩
theorem set1 {x : Int} {c : Int} (j : Nat) : ([(Value.int .i64 c)] : List Value)[j]? = if 0 ≤ j ∧ j < 0 + [(Value.int .i64 c)].length then [(Value.int .i64 c)][j - 0]? else [(Value.int .i64 x)][j]? := by
  match j with
  | 0 => rfl
  | n + 1 => simp

theorem putI {m : Mem} {a : Option Addr} {n r : Nat} {l : List Int} {c : Int} {K : Nat → Nat → Nat → Mem → Prop} (ok : m.Ok) (h : OwnI m a n n l) (hr : r < n) (hK : ∀ b j m', m'.Ok → Kp (blkOf a) m m' → OwnI m' a n n (l.set r c) → K b 0 j m') :
    ckP a fun b o => ckI (r : Int) n fun j => st m b (o + j) (.int .i64 c) fun m' => K b o j m' := by
  have hn := h.len
  obtain ⟨x, hx⟩ := get_some (l := l) (i := r) (by omega)
  obtain ⟨b, hb, hst⟩ := own_st (E := EI) (d := 0) (vs := [(.int .i64 c)]) (cs0 := [(.int .i64 x)]) (cs1 := [(.int .i64 c)]) (x' := c) ok h hx (fun cs hc => hc) (fun _ => rfl) (by intro v hv; simp at hv; subst hv; rfl) (by simp) (by simp [EI]) set1
  rw [hb]
  refine ⟨by omega, by omega, ?_⟩
  rw [Int.toNat_natCast]
  have := hst (fun m' => K b 0 r m') (0 + r) (by simp [EI]) (fun m' ok' kp' own' => hK b r m' ok' kp' own')
  exact this
theorem put_tail {w b1 b34 j : Nat} {W : Obs} {D : Wd} {o : Op} {kp : Kpt} {K : Value → Mem → Prop} {m : Mem} (ok : m.Ok) (d : WdAt m w W D) (l1 : W (9, 4) = some (rowOb b1 o.cells)) (hkp : D.ks[j]? = some kp) (l6 : W (9, 6) = some (rowOb b34 [.slice kp.ra kp.n kp.n, .slice kp.wa kp.n kp.n])) (hI : I64 o.b)
    (hK : ∀ W' D' m', m'.Ok → Ext m m' → WdAt m' w W' D' → D'.xs = D.xs → D'.qs = D.qs → D'.ss = D.ss → D'.ks.length = D.ks.length → (∀ k : Key, 5 ≤ k.1 → W' k = W k) → K (.bool true) m') :
    putTail (callOK Tryz.prog W0) b1 b34 K m := by
  unfold putTail
  have r1 := (d.sep.p _ _ l1).1
  have r6 := (d.sep.p _ _ l6).1
  obtain ⟨k3, k4, k12⟩ := d.kr j kp hkp
  have o3 : OwnI m kp.ra kp.n kp.n kp.l := d.sep.p _ _ k3
  refine ⟨_, _, _, r6.1, ?_⟩
  refine ifB_gt (fun h0 => ?_) (fun h0 => ?_)
  · refine ⟨_, r1.2.2.1, _, _, _, r6.1, ?_⟩
    refine tpick_spec (by omega) hI ?_
    refine ⟨_, rfl, ?_⟩
    have hr := gPk_lt (c := o.b) (n := kp.n) (by omega)
    generalize gPk o.b kp.n = r at hr
    refine ⟨_, _, _, r6.1, _, r1.2.2.2.1, ?_⟩
    refine putI ok o3 hr ?_
    intro _ _ m2 ok2 kp2 own2
    have s2 := d.sep.turn ok (o' := ownOb EI kp.ra kp.n kp.n (kp.l.set r o.c)) k3 kp2 own2 (InS.self _ _)
    generalize hW2 : W.upd (3, j) (some (ownOb EI kp.ra kp.n kp.n (kp.l.set r o.c))) = W2 at s2
    have e2 : ∀ k : Key, k ≠ (3, j) → W2 k = W k := fun k hk => by rw [← hW2]; exact Obs.upd_ne _ _ hk
    have r1' := (s2.p _ _ ((e2 _ (by simp)).trans l1)).1
    have r6' := (s2.p _ _ ((e2 _ (by simp)).trans l6)).1
    have k4' := (e2 (4, j) (by simp)).trans k4
    have o4 : OwnI m2 kp.wa kp.n kp.n kp.l := s2.p _ _ k4'
    refine ⟨_, _, _, r6'.2.1, _, r1'.2.2.2.1, ?_⟩
    refine putI ok2 o4 hr ?_
    intro _ _ m3 ok3 kp3 own3
    have s3 := s2.turn ok2 (o' := ownOb EI kp.wa kp.n kp.n (kp.l.set r o.c)) k4' kp3 own3 (InS.self _ _)
    generalize hW3 : W2.upd (4, j) (some (ownOb EI kp.wa kp.n kp.n (kp.l.set r o.c))) = W3 at s3
    have e3 : ∀ k : Key, k ≠ (3, j) → k ≠ (4, j) → W3 k = W k := fun k hk hk' => by rw [← hW3, Obs.upd_ne _ _ hk']; exact e2 k hk
    have okk : EK.own m3 D.ka D.ks.length D.kc D.ks := s3.p _ _ ((e3 (0, 3) (by simp) (by simp)).trans d.kk)
    have s4 := s3.turn ok3 (o' := ownOb EK D.ka D.ks.length D.kc (D.ks.set j { kp with l := kp.l.set r o.c })) ((e3 (0, 3) (by simp) (by simp)).trans d.kk) (Kp.refl _ _) (own_swap okk hkp ⟨rfl, rfl, rfl⟩) (InS.self _ _)
    generalize hW4 : W3.upd (0, 3) (some (ownOb EK D.ka D.ks.length D.kc (D.ks.set j { kp with l := kp.l.set r o.c }))) = W4 at s4
    have e4 : ∀ k : Key, k ≠ (3, j) → k ≠ (4, j) → k ≠ (0, 3) → W4 k = W k := fun k hk hk' hk2 => by rw [← hW4, Obs.upd_ne _ _ hk2]; exact e3 k hk hk'
    have ecells : ({ D with ks := D.ks.set j { kp with l := kp.l.set r o.c } } : Wd).cells = D.cells := by simp [Wd.cells]
    refine hK W4 { D with ks := D.ks.set j { kp with l := kp.l.set r o.c } } m3 ok3 (kp2.ext.trans kp3.ext) ⟨s4, ?_, (e4 _ (by simp) (by simp) (by simp)).trans d.kx, (e4 _ (by simp) (by simp) (by simp)).trans d.kq, ?_, (e4 _ (by simp) (by simp) (by simp)).trans d.ks, fun i T hi => (e4 _ (by simp) (by simp) (by simp)).trans (d.tx i T hi), fun i T hi => (e4 _ (by simp) (by simp) (by simp)).trans (d.tq i T hi), ?_⟩ rfl rfl rfl (by simp) ?_
    · rw [ecells]; exact (e4 _ (by simp) (by simp) (by simp)).trans d.kw
    · rw [← hW4, Obs.upd_eq]; simp
    · intro i k hi
      rcases kget_set hi with ⟨rfl, rfl⟩ | ⟨hne, hi2⟩
      · refine ⟨?_, ?_, by simpa using k12⟩
        · rw [← hW4, Obs.upd_ne _ _ (by simp), ← hW3, Obs.upd_ne _ _ (by simp), ← hW2, Obs.upd_eq]
        · rw [← hW4, Obs.upd_ne _ _ (by simp), ← hW3, Obs.upd_eq]
      · rw [e4 _ (by simp [hne]) (by simp) (by simp), e4 _ (by simp) (by simp [hne]) (by simp)]
        exact d.kr i k hi2
    · intro k hk
      refine e4 k ?_ ?_ ?_
      all_goals intro h0; rw [h0] at hk; simp at hk
  · exact hK W D m ok (Ext.refl _) d rfl rfl rfl rfl (fun _ _ => rfl)
theorem last_tail {w b1 b3 b214 k : Nat} {W : Obs} {D : Wd} {o : Op} {τ : Told} {T Qt : Tw} {x : ByteArray × ByteArray} {K : Value → Mem → Prop} {m : Mem} (ok : m.Ok) (d : WdAt m w W D) (l1 : W (9, 4) = some (rowOb b1 o.cells)) (l5 : W (9, 5) = some (rowOb b3 τ.cells)) (l6 : W (9, 6) = some (rowOb b214 [.string x.1, .string x.2]))
    (hx : D.xs[k]? = some T) (hq : D.qs[k]? = some Qt) (hv : τ.v = gMCheck (bts x.1) (gTurned (bts x.2) o.c))
    (hK : ∀ W' T' Q' m', m'.Ok → Ext m m' → WdAt m' w W' { D with xs := D.xs.set k T', qs := D.qs.set k Q' } → (∀ k : Key, 5 ≤ k.1 → W' k = W k) → K (.bool true) m') :
    lastTail (callOK Tryz.prog W0) b1 b3 b214 (some ⟨T.x, 0, none⟩) (some ⟨Qt.x, 0, none⟩) K m := by
  unfold lastTail
  have r1 := (d.sep.p _ _ l1).1
  have r6 := (d.sep.p _ _ l6).1
  refine ⟨_, r6.2.1, _, r1.2.2.2.1, ?_⟩
  refine turned_spec ?_
  intro pf m2 ok2 kp2 hpf
  refine ⟨_, rfl, ?_⟩
  have d2 := d.kp0 kp2
  have r62 := (d2.sep.p _ _ l6).1
  have r52 := (d2.sep.p _ _ l5).1
  refine ⟨_, r62.1, ?_⟩
  refine ⟨_, r52.1, _, r52.2.1, _, r52.2.2.1, _, _, _, r52.2.2.2.1, _, r52.2.2.2.2.1, _, r52.2.2.2.2.2.1, _, r52.2.2.2.2.2.2.1, _, r52.2.2.2.2.2.2.2.1, _, r52.2.2.2.2.2.2.2.2.1, _, r52.2.2.2.2.2.2.2.2.2.1, ?_⟩
  have hv2 : τ.v = gMCheck (bts x.1) (bts pf) := by rw [hv, hpf]
  have at2 : TwAt m2 T := d2.sep.p _ _ (d2.tx k T hx)
  refine xcheck_spec at2 hv2 ?_
  intro T3 m3 ok3 kp3 nx3 at3 es3
  refine ⟨_, rfl, ?_⟩
  refine ifB_true ?_
  have s3 := d2.sep.turn ok2 (o' := twOb T3) (d2.tx k T hx) kp3 at3 nx3.ins
  have e3 : ∀ key : Key, key ≠ (1, k) → W.upd (1, k) (some (twOb T3)) key = W key := fun key hk => Obs.upd_ne _ _ hk
  have d3 := d2.turnX hx nx3.x s3 (Obs.upd_eq _ _ _) (fun key _ h2 => e3 key h2)
  generalize W.upd (1, k) (some (twOb T3)) = W3 at s3 d3 e3
  have r63 := (d3.sep.p _ _ ((e3 (9, 6) (by simp)).trans l6)).1
  have r53 := (d3.sep.p _ _ ((e3 (9, 5) (by simp)).trans l5)).1
  refine ⟨_, r63.1, ?_⟩
  refine ⟨_, r53.1, _, r53.2.1, _, r53.2.2.1, _, _, _, r53.2.2.2.1, _, r53.2.2.2.2.1, _, r53.2.2.2.2.2.1, _, r53.2.2.2.2.2.2.1, _, r53.2.2.2.2.2.2.2.1, _, r53.2.2.2.2.2.2.2.2.1, _, r53.2.2.2.2.2.2.2.2.2.1, ?_⟩
  have at3q : TwAt m3 Qt := d3.sep.p _ _ (d3.tq k Qt hq)
  refine xcheck_spec at3q hv2 ?_
  intro T4 m4 ok4 kp4 nx4 at4 es4
  refine ⟨_, rfl, ?_⟩
  have s4 := d3.sep.turn ok3 (o' := twOb T4) (d3.tq k Qt hq) kp4 at4 nx4.ins
  have d4 := d3.turnQ hq nx4.x s4 (Obs.upd_eq _ _ _) (fun key _ h2 => Obs.upd_ne _ _ h2)
  refine hK _ T3 T4 m4 ok4 ((kp2.ext.trans kp3.ext).trans kp4.ext) d4 ?_
  intro key hk
  rw [Obs.upd_ne _ _ (fun h0 => by rw [h0] at hk; simp at hk)]
  exact e3 key (fun h0 => by rw [h0] at hk; simp at hk)

theorem WdAt.appX {m : Mem} {w : Nat} {W : Obs} {D : Wd} {T : Tw} {K : Mem → Prop} (h : WdAt m w W D) (ok : m.Ok) (hT : W (7, 0) = some (twOb T)) (hb : D.xs.length ≤ 2 ^ 33)
    (hK : ∀ W' a c m', m'.Ok → Ext m m' → WdAt m' w W' { D with xs := D.xs ++ [T], xa := a, xc := c } → (∀ k : Key, 5 ≤ k.1 → k ≠ (7, 0) → W' k = W k) → K m') :
    allocB m (Blk.ofList [ptr T.x 0]) fun b m5 => rdRow m5 (some ⟨b, 0, none⟩) (1 * 1) fun r => appendC m5 1 8 [(.pointer none)] D.xa D.xs.length D.xc 1 r fun a' c' m' => st m' w 0 (.slice a' (D.xs.length + 1) c') fun m12 => K m12 := by
  have hl : EP.own m D.xa D.xs.length D.xc (D.xs.map Tw.x) := h.sep.p _ _ h.kx
  refine Elt.app1 (E := EP) (x := T.x) ok hl rfl rfl rfl (by omega) (by omega) ?_
  intro a' c' m6 ok6 kp6 own6 in6
  have s5 := h.sep.move (k2 := (1, D.xs.length)) hT
  have s6 := s5.turn ok (k := (0, 1)) (o := ownOb EP D.xa D.xs.length D.xc (D.xs.map Tw.x)) (o' := ownOb EP a' (D.xs.length + 1) c' (D.xs.map Tw.x ++ [T.x])) (by rw [Obs.upd_ne _ _ (by simp), Obs.upd_ne _ _ (by simp)]; exact h.kx) kp6 own6 in6
  generalize hW6 : (((W.upd (7, 0) none).upd (1, D.xs.length) (some (twOb T))).upd (0, 1) (some (ownOb EP a' (D.xs.length + 1) c' (D.xs.map Tw.x ++ [T.x])))) = W6 at s6
  have e6 : ∀ k : Key, k ≠ (7, 0) → k ≠ (1, D.xs.length) → k ≠ (0, 1) → W6 k = W k := fun k h1 h2 h3 => by rw [← hW6, Obs.upd_ne _ _ h3, Obs.upd_ne _ _ h2, Obs.upd_ne _ _ h1]
  have w3 : W6 (0, 0) = some (rowOb w D.cells) := by rw [e6 _ (by simp) (by simp) (by simp)]; exact h.kw
  have hrow6 : RowAt m6 w D.cells := s6.p _ _ w3
  refine hrow6.st ok6 (by simp [Wd.cells]) ?_
  intro m7 ok7 kp7 row7
  have ecells : D.cells.set 0 (.slice a' (D.xs.length + 1) c') = ({ D with xs := D.xs ++ [T], xa := a', xc := c' } : Wd).cells := by
    simp [Wd.cells]
  rw [ecells] at row7
  have s7 := s6.turn ok6 w3 (o' := rowOb w ({ D with xs := D.xs ++ [T], xa := a', xc := c' } : Wd).cells) kp7 row7 (InS.self _ _)
  have e7 : ∀ k : Key, k ≠ (7, 0) → k ≠ (1, D.xs.length) → k ≠ (0, 1) → k ≠ (0, 0) → W6.upd (0, 0) (some (rowOb w ({ D with xs := D.xs ++ [T], xa := a', xc := c' } : Wd).cells)) k = W k := by
    intro k h1 h2 h3 h4
    rw [Obs.upd_ne _ _ h4]; exact e6 k h1 h2 h3
  refine hK _ a' c' m7 ok7 (kp6.ext.trans kp7.ext) ⟨s7, Obs.upd_eq _ _ _, ?_, ?_, ?_, ?_, ?_, ?_, ?_⟩ ?_
  · rw [Obs.upd_ne _ _ (by simp), ← hW6, Obs.upd_eq]; simp
  · rw [e7 _ (by simp) (by simp) (by simp) (by simp)]; exact h.kq
  · rw [e7 _ (by simp) (by simp) (by simp) (by simp)]; exact h.kk
  · rw [e7 _ (by simp) (by simp) (by simp) (by simp)]; exact h.ks
  · intro i T0 hi
    dsimp only at hi
    by_cases he : i = D.xs.length
    · subst he
      simp at hi
      subst hi
      rw [Obs.upd_ne _ _ (by simp), ← hW6, Obs.upd_ne _ _ (by simp), Obs.upd_eq]
    · have hi2 : D.xs[i]? = some T0 := by
        rw [List.getElem?_append] at hi
        split at hi
        · exact hi
        · rw [List.getElem?_eq_none (by simp; omega)] at hi; cases hi
      rw [e7 _ (by simp) (by simp [he]) (by simp) (by simp)]; exact h.tx i T0 hi2
  · intro i T hi; rw [e7 _ (by simp) (by simp) (by simp) (by simp)]; exact h.tq i T hi
  · intro i k hi; rw [e7 _ (by simp) (by simp) (by simp) (by simp), e7 _ (by simp) (by simp) (by simp) (by simp)]; exact h.kr i k hi
  · intro k hk h7
    refine e7 k h7 ?_ ?_ ?_
    all_goals intro h0; rw [h0] at hk; simp at hk

theorem WdAt.appQ {m : Mem} {w : Nat} {W : Obs} {D : Wd} {T : Tw} {K : Mem → Prop} (h : WdAt m w W D) (ok : m.Ok) (hT : W (7, 1) = some (twOb T)) (hb : D.qs.length ≤ 2 ^ 33)
    (hK : ∀ W' a c m', m'.Ok → Ext m m' → WdAt m' w W' { D with qs := D.qs ++ [T], qa := a, qc := c } → (∀ k : Key, 5 ≤ k.1 → k ≠ (7, 1) → W' k = W k) → K m') :
    allocB m (Blk.ofList [ptr T.x 0]) fun b m5 => rdRow m5 (some ⟨b, 0, none⟩) (1 * 1) fun r => appendC m5 1 8 [(.pointer none)] D.qa D.qs.length D.qc 1 r fun a' c' m' => st m' w 1 (.slice a' (D.qs.length + 1) c') fun m12 => K m12 := by
  have hl : EP.own m D.qa D.qs.length D.qc (D.qs.map Tw.x) := h.sep.p _ _ h.kq
  refine Elt.app1 (E := EP) (x := T.x) ok hl rfl rfl rfl (by omega) (by omega) ?_
  intro a' c' m6 ok6 kp6 own6 in6
  have s5 := h.sep.move (k2 := (2, D.qs.length)) hT
  have s6 := s5.turn ok (k := (0, 2)) (o := ownOb EP D.qa D.qs.length D.qc (D.qs.map Tw.x)) (o' := ownOb EP a' (D.qs.length + 1) c' (D.qs.map Tw.x ++ [T.x])) (by rw [Obs.upd_ne _ _ (by simp), Obs.upd_ne _ _ (by simp)]; exact h.kq) kp6 own6 in6
  generalize hW6 : (((W.upd (7, 1) none).upd (2, D.qs.length) (some (twOb T))).upd (0, 2) (some (ownOb EP a' (D.qs.length + 1) c' (D.qs.map Tw.x ++ [T.x])))) = W6 at s6
  have e6 : ∀ k : Key, k ≠ (7, 1) → k ≠ (2, D.qs.length) → k ≠ (0, 2) → W6 k = W k := fun k h1 h2 h3 => by rw [← hW6, Obs.upd_ne _ _ h3, Obs.upd_ne _ _ h2, Obs.upd_ne _ _ h1]
  have w3 : W6 (0, 0) = some (rowOb w D.cells) := by rw [e6 _ (by simp) (by simp) (by simp)]; exact h.kw
  have hrow6 : RowAt m6 w D.cells := s6.p _ _ w3
  refine hrow6.st ok6 (by simp [Wd.cells]) ?_
  intro m7 ok7 kp7 row7
  have ecells : D.cells.set 1 (.slice a' (D.qs.length + 1) c') = ({ D with qs := D.qs ++ [T], qa := a', qc := c' } : Wd).cells := by
    simp [Wd.cells]
  rw [ecells] at row7
  have s7 := s6.turn ok6 w3 (o' := rowOb w ({ D with qs := D.qs ++ [T], qa := a', qc := c' } : Wd).cells) kp7 row7 (InS.self _ _)
  have e7 : ∀ k : Key, k ≠ (7, 1) → k ≠ (2, D.qs.length) → k ≠ (0, 2) → k ≠ (0, 0) → W6.upd (0, 0) (some (rowOb w ({ D with qs := D.qs ++ [T], qa := a', qc := c' } : Wd).cells)) k = W k := by
    intro k h1 h2 h3 h4
    rw [Obs.upd_ne _ _ h4]; exact e6 k h1 h2 h3
  refine hK _ a' c' m7 ok7 (kp6.ext.trans kp7.ext) ⟨s7, Obs.upd_eq _ _ _, ?_, ?_, ?_, ?_, ?_, ?_, ?_⟩ ?_
  · rw [e7 _ (by simp) (by simp) (by simp) (by simp)]; exact h.kx
  · rw [Obs.upd_ne _ _ (by simp), ← hW6, Obs.upd_eq]; simp
  · rw [e7 _ (by simp) (by simp) (by simp) (by simp)]; exact h.kk
  · rw [e7 _ (by simp) (by simp) (by simp) (by simp)]; exact h.ks
  · intro i T hi; rw [e7 _ (by simp) (by simp) (by simp) (by simp)]; exact h.tx i T hi
  · intro i T0 hi
    dsimp only at hi
    by_cases he : i = D.qs.length
    · subst he
      simp at hi
      subst hi
      rw [Obs.upd_ne _ _ (by simp), ← hW6, Obs.upd_ne _ _ (by simp), Obs.upd_eq]
    · have hi2 : D.qs[i]? = some T0 := by
        rw [List.getElem?_append] at hi
        split at hi
        · exact hi
        · rw [List.getElem?_eq_none (by simp; omega)] at hi; cases hi
      rw [e7 _ (by simp) (by simp [he]) (by simp) (by simp)]; exact h.tq i T0 hi2
  · intro i k hi; rw [e7 _ (by simp) (by simp) (by simp) (by simp), e7 _ (by simp) (by simp) (by simp) (by simp)]; exact h.kr i k hi
  · intro k hk h7
    refine e7 k h7 ?_ ?_ ?_
    all_goals intro h0; rw [h0] at hk; simp at hk
end Go.Proofs.Qxb6500974aGreat
