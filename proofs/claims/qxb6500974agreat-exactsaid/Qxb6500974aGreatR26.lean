import Derived.Test.Qxb6500974aGreatP14
set_option linter.all false
set_option linter.unusedSimpArgs false
set_option linter.unusedVariables false
namespace Go.Proofs.Qxb6500974aGreat
open Go.Eng
variable {W0 : World}

theorem ref_check {t : List UInt8} {Q : List (List Int)} {σ : St} (he : Ended t Q σ) (h : RefEnd Q σ) : gMCheck t (gPrint σ.log) = (0, 0, 0) ∧ gParse (gPrint σ.log) = (0, 0, σ.log) := by
  obtain ⟨rows, L, l1, l2, l3, l4, l5, l6⟩ := h.rows
  have hn : ∀ r ∈ rows ++ [(false, [])], NF r.2 := by
    intro r hr
    rcases List.mem_append.1 hr with h0 | h0
    · exact (l2 r h0).1
    · simp at h0; subst h0; exact ⟨by simp, by simp⟩
  have hp : gParse (gPrint σ.log) = (0, 0, σ.log) := by
    rw [l1]
    exact parse_print hn (by rw [← l1]; exact h.llen)
  refine ⟨?_, hp⟩
  unfold gMCheck
  rw [hp, he.prob, if_neg (by simp), if_neg (by simp)]
  dsimp only
  rw [l1, gRows_flat _ hn]
  exact l6
theorem msolve_is {s p : Nat} {text : ByteArray} {K : Value → Mem → Prop} {m : Mem} (hp : PM m p) (hs : HoldsP m s p)
    (hK : ∀ a n c x m', m'.Ok → Kp [p] m m' → PM m' p → K (.agg #[(.int .i64 (gA (bts text)).err), (.int .i64 (gA (bts text)).pos), (.bool (gA (bts text)).sat), (.slice a n c), (.string x), (.int .i64 0), (.int .i64 0)]) m') : callOK Tryz.prog W0 72 [ptr s 0, .string text] K m := by
  rcases gA_cases (bts text) with ⟨e, q, he, hA, hP⟩ | ⟨Q, σ, hE, hX⟩
  · rw [hA] at hK
    refine msolve_spec hp hs rfl ?_ ?_ ?_
    · intro _ m' ok' kp' pm'
      rw [hP]
      exact hK _ _ _ _ m' ok' kp' pm'
    · intro h0; rw [hP] at h0; exact (he h0).elim
    · intro h0; rw [hP] at h0; exact (he h0).elim
  · rcases hX with ⟨hS, hA⟩ | ⟨hS, hA⟩
    · rw [hA] at hK
      have hlt : maskA σ.t 12 < 4096 := maskA_lt σ.t 12
      have ht : 0 ≤ gTable Q 4096 0 := table_pos 4096 0 ⟨maskA σ.t 12, by omega, by omega, hS.all hE.len⟩
      refine msolve_spec hp hs hE.prob ?_ ?_ ?_
      · intro h0; exact (h0 rfl).elim
      · intro _ h0; dsimp only at h0; have hF : False := by omega
        cases hF
      · intro _ _ a n c x m' ok' kp' pm'
        exact hK _ _ _ _ m' ok' kp' pm'
    · rw [hA] at hK
      have hc := (ref_check hE hS).1
      have ht : gTable Q 4096 0 = -1 := by
        have := @mcheck_table (bts text) (gPrint σ.log) (by rw [hc])
        rw [hE.prob] at this
        exact this
      refine msolve_spec hp hs hE.prob ?_ ?_ ?_
      · intro h0; exact (h0 rfl).elim
      · intro _ _ x m' ok' kp' pm'
        exact hK _ _ _ _ m' ok' kp' pm'
      · intro _ h0; dsimp only at h0; have hF : False := by omega
        cases hF
theorem one7 {x0 x1 : Int} {x2 : Bool} {a : Option Addr} {n c : Nat} {x4 : ByteArray} {x5 x6 : Int} : ∀ v ∈ [(Value.int .i64 x0), (.int .i64 x1), (.bool x2), (.slice a n c), (.string x4), (.int .i64 x5), (.int .i64 x6)], oneC v = true := by
  intro v hv; simp at hv; rcases hv with rfl | rfl | rfl | rfl | rfl | rfl | rfl <;> rfl
theorem one3s {x0 x1 : Int} {a : Option Addr} {n c : Nat} : ∀ v ∈ [(Value.int .i64 x0), (.int .i64 x1), (.slice a n c)], oneC v = true := by
  intro v hv; simp at hv; rcases hv with rfl | rfl | rfl <;> rfl
theorem NF_len12 {l : List Int} (h : NF l) : l.length ≤ 12 := by
  rw [← nf_self h]; exact nfA_len_le _ 12 1
theorem flat_len : ∀ (R : List (Bool × List Int)), R.length ≤ (flatOf R).length
  | [] => by simp [flatOf]
  | r :: R => by
    have := flat_len R
    simp only [flatOf, List.length_cons, List.length_append]
    omega
theorem judged_spec {T : Tw} {text pf : ByteArray} {ma : Option Addr} {mn : Nat} {K : Value → Mem → Prop} {m : Mem} (h : TwAt m T) (hσ : ∃ σ0, T.σ = gAfter 70000 σ0 (bts text)) (hm : ModelV m ma mn (gA (bts text)).model) (hp : bts pf = (gA (bts text)).proof)
    (hK : ∀ (T' : Tw) m', m'.Ok → Kp T.foot m m' → T.Next T' m → TwAt m' T' → T'.σ = T.σ → K (.bool true) m') :
    callOK Tryz.prog W0 42 [ptr T.x 0, .string text, .agg #[(.int .i64 (gA (bts text)).err), (.int .i64 (gA (bts text)).pos), (.bool (gA (bts text)).sat), (.slice ma mn mn), (.string pf), (.int .i64 (gA (bts text)).conf), (.int .i64 (gA (bts text)).rest)]] K m := by
  refine callOK_ok fun ok => call42 ?_
  have hlt := h.lt ok
  unfold s42
  rw [zero39, zero41, zero73]
  refine alloc_row ok ?_
  intro b1 m1 hb1 hlt1 ok1 kp1 row1 bn1
  have t1 := kp1.top
  refine newWorld_spec ?_
  intro z s p' p k m2 hz hs hp' hpp hk ok2 kp2 zat2
  refine ⟨_, rfl, ?_⟩
  have t2 := kp2.top
  have out : ∀ y, m1.top ≤ y → y ∉ T.foot := fun y hy h0 => by have := hlt y h0; omega
  have zlt : z < m2.top := by
    have := zat2.c1
    unfold Mem.cell at this
    cases hm : m2.blk z with
    | none => simp [hm] at this
    | some f => exact ok2 _ _ hm
  have slt := zat2.hs.lt ok2
  have klt := zat2.hk.lt ok2
  have plt := zat2.pm.lt ok2
  have plt' := zat2.pm'.lt ok2
  refine ⟨_, zat2.c1, ?_⟩
  refine msolve_is zat2.pm' zat2.hs ?_
  intro oa on oc ox m3 ok3 kp3 pm3
  refine ⟨_, _, _, _, _, _, _, _, _, rfl, ?_⟩
  have t3 := kp3.top
  have row3 := kp3.row (b := b1) (by simp; omega) (kp2.row (by simp) row1)
  refine alloc_put ok3 (by simp) one7 (by simp) ?_
  intro b4 m4 hb4 hlt4 ok4 kp4 row4 bn4
  have t4 := kp4.top
  have row14 := kp4.row (by simp) row3
  have pz4 : m4.cell z 2 = some (ptr p 0) := kp4.cell (by simp) (kp3.cell (by simp [zat2.dz.1]) zat2.c2)
  have zat4 : ZAt m4 z s p' p k := ⟨kp4.cell (by simp) (kp3.cell (by simp [zat2.dz.1]) zat2.c1), pz4, kp4.cell (by simp) (kp3.cell (by simp [zat2.dz.1]) zat2.c3), (zat2.hs.keep kp3 (by simp [zat2.hs.2])).keep kp4 (by simp), (zat2.hk.keep kp3 (by simp [zat2.dk])).keep kp4 (by simp), pm3.keep kp4 (by simp), (zat2.pm.keep kp3 (by have := zat2.dp; simp; omega)).keep kp4 (by simp), zat2.dz, zat2.ds, zat2.dk, zat2.dp⟩
  have kk4 : Kp [] m m4 := (((kp1.trans kp2).step kp3 ok (fun b' hb' => .inr (by simp at hb'; omega)))).trans kp4
  have h4 : TwAt m4 T := h.keep kk4 (fun _ _ => by simp)
  have mv4 : ModelV m4 ma mn (gA (bts text)).model := ⟨hm.1.keep0 kk4, hm.2⟩
  obtain ⟨r0, r1, r2, r3, r4, r5, r6, _⟩ := row14
  obtain ⟨q0, q1, q2, _⟩ := row4
  refine ⟨_, r0, _, q0, ?_⟩
  refine ifB_ne (fun h0 => ?_) (fun _ => ?_)
  · have hF : False := h0 rfl
    cases hF
  refine ⟨_, r1, _, q1, ?_⟩
  refine ifB_ne (fun h0 => ?_) (fun _ => ?_)
  · have hF : False := h0 rfl
    cases hF
  refine ⟨_, r2, _, q2, ?_⟩
  refine ifB_not (fun h0 => ?_) (fun _ => ?_)
  · rw [beq_self_eq_true] at h0
    cases h0
  refine ⟨_, r0, ?_⟩
  rcases gA_cases (bts text) with ⟨e, q, he, hA, hP⟩ | ⟨Q, σ, hE, hX⟩
  · rw [hA] at r0 r1 r2 r5 r6 mv4 hp
    rw [hA]
    refine ifB_ne (fun _ => ?_) (fun h0 => (he h0).elim)
    refine ⟨_, _, _, r3, ?_⟩
    have : ma = none := mv4.2.2 rfl
    subst this
    refine ifB_true ?_
    refine ⟨_, r4, ?_⟩
    have : pf = ByteArray.mk #[] := bts_inj (by rw [hp]; rfl)
    subst this
    refine ifB_of (fun _ => ?_) (fun h0 => by simp at h0)
    refine ⟨_, r5, ?_⟩
    refine ifB_eq (fun _ => ?_) (fun h0 => (h0 rfl).elim)
    refine ⟨_, r6, ?_⟩
    exact hK T m4 ok4 kk4.of_nil ⟨rfl, rfl, rfl, rfl, InS.self _ _⟩ h4 rfl
  · have hw0 : T.σ.w = σ.w ∧ T.σ.t = σ.t := by
      obtain ⟨σ0, h0⟩ := hσ
      rw [hE.aft] at h0
      rw [h0]; exact ⟨rfl, rfl⟩
    have herr : (gA (bts text)).err = 0 := by rcases hX with ⟨_, h0⟩ | ⟨_, h0⟩ <;> rw [h0]
    rw [herr]
    refine ifB_ne (fun h0 => (h0 rfl).elim) (fun _ => ?_)
    refine ⟨_, zat4.c2, ?_⟩
    refine problem_fz zat4.pm hE.prob ?_
    intro qa qn qc m5 ok5 kp5 pm5 fz5
    refine ⟨_, _, _, _, _, rfl, ?_⟩
    dsimp only at fz5
    have t5 := kp5.top
    have row15 : m5.row b1 0 [(.int .i64 (gA (bts text)).err), (.int .i64 (gA (bts text)).pos), (.bool (gA (bts text)).sat), (.slice ma mn mn), (.string pf), (.int .i64 (gA (bts text)).conf), (.int .i64 (gA (bts text)).rest)] :=
      kp5.row (by simp; omega) (kp4.row (by simp) row3)
    have kk5 : Kp [] m m5 := kk4.step kp5 ok (fun b' hb' => .inr (by simp at hb'; omega))
    have zat5 : ZAt m5 z s p' p k := ⟨kp5.cell (by simp [zat2.dz.2]) zat4.c1, kp5.cell (by simp [zat2.dz.2]) zat4.c2, kp5.cell (by simp [zat2.dz.2]) zat4.c3, zat4.hs.keep kp5 (by simp [zat2.ds]), zat4.hk.keep kp5 (by have := zat2.hk.2; simp [this]), zat4.pm'.keep kp5 (by simp [zat2.dp]), pm5, zat2.dz, zat2.ds, zat2.dk, zat2.dp⟩
    obtain ⟨g0, g1, g2, g3, g4, g5, g6, _⟩ := row15
    refine ⟨_, g0, _, g1, _, g2, _, _, _, g3, _, g4, _, g5, _, g6, ?_⟩
    have hG : ∃ s0, (gA (bts text)).conf = ahead (gA (bts text)).rest + s0 + (if (gA (bts text)).sat = true then 0 else 1) ∧ (gA (bts text)).conf ≤ 4106 ∧ (gA (bts text)).rest ≤ 4 ∧ ((gA (bts text)).rest < 4 → s0 ≤ (gA (bts text)).rest) := by
      rcases hX with ⟨hS, h0⟩ | ⟨hS, h0⟩
      · rw [h0]; exact ⟨σ.since, by rw [if_pos rfl]; exact hS.ib.conf, hS.fin.conf, hS.ib.rest, hS.ib.since⟩
      · rw [h0]; exact ⟨σ.since, by rw [if_neg (by simp)]; exact hS.due, hS.fin.conf, hS.fin.rest, hS.since⟩
    obtain ⟨s0, G1, G2, G3, G4⟩ := hG
    refine gauges_spec G1 G2 G3 G4 ?_
    intro m6 ok6 kp6
    refine ⟨_, rfl, ?_⟩
    refine ifB_not (fun h0 => by simp at h0) (fun _ => ?_)
    refine ⟨_, kp6.cell (by simp) g0, _, kp6.cell (by simp) g1, _, kp6.cell (by simp) g2, _, _, _, kp6.cell (by simp) g3, _, kp6.cell (by simp) g4, _, kp6.cell (by simp) g5, _, kp6.cell (by simp) g6, ?_⟩
    have kk6 := kk5.trans kp6
    have h6 : TwAt m6 T := h.keep kk6 (fun _ _ => by simp)
    have mv6 : ModelV m6 ma mn (gA (bts text)).model := ⟨hm.1.keep0 kk6, hm.2⟩
    have hprob : ∀ id, id < 40 → ((T.σ.w id).st ≠ 0 ↔ id < Q.length) ∧ ∀ q, Q[id]? = some q → (T.σ.w id).lits.Perm q := by
      rw [hw0.1]
      rcases hX with ⟨hS, h0⟩ | ⟨hS, h0⟩
      · exact hS.ib.prob
      · exact hS.prob
    have hval : ∀ x ∈ (gA (bts text)).model, T.σ.t.value x = 1 := by
      rw [hw0.2]
      rcases hX with ⟨hS, h0⟩ | ⟨hS, h0⟩
      · rw [h0]; exact hS.values
      · rw [h0]; intro x hx; cases hx
    refine handed_spec h6 ((fz5.keep kp6).sl) hE.len hE.nf hprob mv6.1.sl (by have := gA_model_len (bts text); omega) hval ?_
    intro m7 ok7 kp7
    refine ⟨_, rfl, ?_⟩
    refine ifB_not (fun h0 => by simp at h0) (fun _ => ?_)
    have kp67 := kp6.trans kp7
    have kk7 := kk6.trans kp7
    have h7 : TwAt m7 T := h.keep kk7 (fun _ _ => by simp)
    have mv7 : ModelV m7 ma mn (gA (bts text)).model := ⟨hm.1.keep0 kk7, hm.2⟩
    have fz7 := fz5.keep kp67
    replace g0 := kp67.cell (by simp) g0
    replace g2 := kp67.cell (by simp) g2
    replace g3 := kp67.cell (by simp) g3
    replace g4 := kp67.cell (by simp) g4
    replace g5 := kp67.cell (by simp) g5
    have zat7 := zat5.keep kp67 (by simp)
    have t67 := kp67.top
    have eqn := fz7.len
    have hQs : Small Q := ⟨by have := hE.len; omega, fun l hl => by have := NF_len12 (hE.nf l hl); omega⟩
    refine ⟨_, g2, ?_⟩
    rcases hX with ⟨hS, hA⟩ | ⟨hS, hA⟩
    · rw [hA] at g2 g5 mv7 hp ⊢
      refine ifB_true ?_
      refine ⟨_, _, _, g3, ?_⟩
      refine mask_spec mv7.1.sl rfl ?_
      refine ⟨_, _, rfl, ?_⟩
      refine ifB_not (fun h0 => by simp at h0) (fun _ => ?_)
      refine ⟨_, g4, ?_⟩
      have : pf = ByteArray.mk #[] := bts_inj (by rw [hp]; rfl)
      subst this
      refine ifB_not (fun h0 => by simp at h0) (fun _ => ?_)
      refine allHold_spec fz7.sl hQs ?_
      refine ⟨_, rfl, ?_⟩
      rw [hS.all hE.len]
      refine ifB_not (fun h0 => by simp at h0) (fun _ => ?_)
      refine tlive_spec h7 ?_
      intro la ln lc m8 ok8 kp8 fz8
      refine ⟨_, _, _, rfl, ?_⟩
      refine ⟨_, kp8.cell (by simp) g5, ?_⟩
      have hfew := hS.few
      have hlen := liveL_len σ.w
      have hQl := hE.len
      rw [hw0.1] at fz8
      have eln := fz8.len
      rw [wrap_i64 (by omega) (by omega)]
      refine ifB_gt (fun h0 => ?_) (fun _ => ?_)
      · have hF : False := by dsimp only at h0; omega
        cases hF
      have fzq8 := fz7.keep kp8
      refine loop42_1 (γ := Nat) (fun k t i m' => i = k ∧ m' = m8) (fun k _ _ => 60 - k) Q.length ⟨by omega, rfl⟩ ?_
      rintro k2 t i m' ⟨rfl, rfl⟩
      unfold s42_1
      refine ifB_lt (fun hlt5 => ?_) (fun hlt5 => ?_)
      · refine fz8.sl.getL (by omega) (by omega) fun _ _ _ ai ni ci hai => ?_
        have hkl : k2 < (liveL σ.w).length := by omega
        have hmem := List.mem_of_getElem? (getD_some hkl [])
        rw [Int.toNat_natCast] at hai
        have hne := hS.ne _ hmem
        have hni := hai.len
        refine ifB_eq (fun h0 => ?_) (fun _ => ?_)
        · have hF : False := hne (List.eq_nil_of_length_eq_zero (by omega))
          cases hF
        refine fz8.sl.getL (by omega) (by omega) fun _ _ _ ai ni ci hai => ?_
        rw [Int.toNat_natCast] at hai
        have hl12 := NF_len12 (liveL_NF hS.pi.wg _ hmem)
        refine follows_spec fzq8.sl hQs hai.sl (by omega) (hS.follows hE.nf _ hmem) ?_
        refine ⟨_, rfl, ?_⟩
        refine ifB_not (fun h0 => by simp at h0) (fun _ => ?_)
        exact ⟨k2 + 1, t, _, rfl, ⟨wrapS k2 (by omega), rfl⟩, by omega⟩
      · rw [e42_1x0]
        exact hK T _ ok8 ((kk7.trans kp8).of_nil) ⟨rfl, rfl, rfl, rfl, InS.self _ _⟩ (h7.keep kp8 (fun _ _ => by simp)) rfl
    · rw [hA] at g2 g5 mv7 hp ⊢
      refine ifB_false ?_
      refine ⟨_, _, _, g3, ?_⟩
      have : ma = none := mv7.2.2 rfl
      subst this
      refine ifB_not (fun h0 => by simp at h0) (fun _ => ?_)
      refine ⟨_, g4, ?_⟩
      dsimp only at hp
      have hcks := ref_check hE hS
      refine sameCheck_spec h7 zat7 ⟨out _ hz, out _ hs, out _ hp', out _ hpp, out _ hk⟩ ⟨by omega, by omega, by omega⟩ ?_
      rw [hp, hcks.1]
      intro T8 m8 ok8 kp8 nx8 at8 es8 zat8
      refine ⟨_, _, _, _, rfl, ?_⟩
      have t8 := kp8.top
      have nfoot : ∀ y, m1.top ≤ y → y ≠ p → y ∉ p :: T.foot := fun y hy h0 h1 => by
        rcases List.mem_cons.1 h1 with h2 | h2
        · exact h0 h2
        · exact out y hy h2
      have b1nf : b1 ∉ p :: T.foot := fun h1 => by
        rcases List.mem_cons.1 h1 with h2 | h2
        · omega
        · have := hlt b1 h2; omega
      refine alloc_put ok8 (by simp) one3 (by simp) ?_
      intro b9 m9 hb9 hlt9 ok9 kp9 row9 bn9
      refine ifB_not (fun h0 => by simp at h0) (fun _ => ?_)
      refine ⟨_, row9.1, ?_⟩
      refine ifB_ne (fun h0 => ?_) (fun _ => ?_)
      · have hF : False := h0 rfl
        cases hF
      have zat9 := zat8.keep kp9 (by simp)
      have g49 := kp9.cell (by simp) (kp8.cell b1nf g4)
      have g59 := kp9.cell (by simp) (kp8.cell b1nf g5)
      have fzq9 := (fz7.keep kp8).keep kp9
      have at9 := at8.keep kp9 (fun _ _ => by simp)
      have kk9 : Kp T.foot m m9 := (kk7.of_nil.step kp8 ok (fun x hx => by
        rcases List.mem_cons.1 hx with h0 | h0
        · exact .inr (by omega)
        · exact .inl h0)).trans kp9.of_nil
      have nx9 : T.Next T8 m := ⟨nx8.x, nx8.B, nx8.q, nx8.k, fun x hx => (nx8.ins x hx).orMap id (fun h0 => by have := kk7.top; omega)⟩
      have pnT : ∀ x ∈ T8.foot, x ∉ [p] := by
        intro x hx h0
        simp only [List.mem_singleton] at h0
        rcases nx8.ins x hx with h1 | h1
        · have := hlt x h1; omega
        · omega
      have t9 := kp9.top
      obtain ⟨rows, L, l1, l2, l3, l4, l5, l6⟩ := hS.rows
      have hn : ∀ r ∈ rows ++ [(false, [])], NF r.2 := by
        intro r hr
        rcases List.mem_append.1 hr with h0 | h0
        · exact (l2 r h0).1
        · simp at h0; subst h0; exact ⟨by simp, by simp⟩
      have hgr : gRows σ.log = rows ++ [(false, [])] := by rw [l1]; exact gRows_flat _ hn
      have hcf : gCheckFlat σ.log = 0 := by rw [l1]; exact check_flat hn
      have hll := hS.llen
      have hrl : rows.length + 1 ≤ 262144 := by
        have h0 := flat_len (rows ++ [(false, [])])
        rw [← l1] at h0
        simp only [List.length_append, List.length_cons, List.length_nil] at h0
        omega
      have hadds : gAdds 0 (rows ++ [(false, [])]) = ((σ.conf : Nat) : Int) := by
        rw [gAdds_is]
        have : adds (rows ++ [(false, [])]) = adds rows + 1 := by simp [adds]
        omega
      have hparse : gParse (bts pf) = (0, 0, σ.log) := by rw [hp]; exact hcks.2
      refine ⟨_, zat9.c2, ?_⟩
      refine ⟨_, g49, ?_⟩
      have fin : ∀ (mT : Mem), mT.Ok → Kp [p] m9 mT → K (.bool true) mT := fun mT okT kpT =>
        hK T8 mT okT (kk9.step kpT ok (fun b' hb' => .inr (by simp at hb'; omega))) nx9 (at9.keep kpT pnT) es8
      refine ⟨?_, ?_, trivial⟩
      · refine mparse_spec zat9.pm hparse ?_
        intro fa fn fc m10 ok10 kp10 pm10 fz10
        refine ⟨_, _, _, _, _, rfl, ?_⟩
        dsimp only at fz10 ⊢
        have t10 := kp10.top
        refine alloc_put ok10 (by simp) one3s (by simp) ?_
        intro b11 m11 hb11 hlt11 ok11 kp11 row11 bn11
        have kpT : Kp [p] m9 m11 := kp10.trans kp11.of_nil
        have rT : m11.cell b11 2 = some (.slice fa fn fc) := row11.2.2.1
        have pmT := pm10.keep kp11 (by simp)
        have fzT := fz10.keep kp11
        have zT := kpT.cell (b := z) (by simp [zat2.dz.2]) zat9.c2
        refine ⟨_, zT, ?_⟩
        refine ⟨_, _, _, rT, ?_⟩
        refine mprint_spec pmT fzT.sl (fun hne b hb h0 => ?_) ?_
        · simp only [List.mem_singleton] at h0
          subst h0
          obtain ⟨f, x, y, hbf, hwr, _⟩ := pmT
          exact fz_ne fzT hbf hwr hne b hb (by simp)
        intro ps pe m12 ok12 kp12 pm12 pr12
        refine ⟨_, _, rfl, ?_⟩
        have hpe : pe = 0 ∧ bts ps = gPrint σ.log := by
          unfold PrintR at pr12
          rw [if_neg (by omega), if_pos hcf] at pr12
          exact pr12
        obtain ⟨hpe0, hpe1⟩ := hpe
        subst hpe0
        refine ifB_ne (fun h0 => ?_) (fun _ => ?_)
        · have hF : False := h0 rfl
          cases hF
        have kpT2 := kpT.trans kp12
        have g4T := kpT2.cell (b := b1) (by simp; omega) g49
        refine ⟨_, g4T, ?_⟩
        have hps : ps = pf := bts_inj (by rw [hpe1, hp])
        subst hps
        refine ifB_not (fun h0 => by simp at h0) (fun _ => ?_)
        refine ⟨_, _, _, kp12.cell (by simp; omega) rT, ?_⟩
        have fz12 := fzT.keep kp12
        refine rows_spec fz12.sl (by omega) hgr ?_
        intro sa sc m13 ok13 kp13 fr13
        refine ⟨_, _, _, rfl, ?_⟩
        have hRl : (rows ++ [(false, ([] : List Int))]).length = rows.length + 1 := by simp
        rw [hRl] at fr13
        rw [hRl]
        have ew : IntKind.wrap .i64 (((rows.length + 1 : Nat) : Int) - 1) = ((rows.length : Nat) : Int) := by rw [wrap_i64 (by omega) (by omega)]; omega
        refine ifB_eq (fun h0 => ?_) (fun _ => ?_)
        · have hF : False := by omega
          cases hF
        rw [ew]
        have elast : (rows ++ [(false, ([] : List Int))]).getD rows.length (false, []) = (false, []) := by simp [List.getD]
        refine fr13.sl.getD (by omega) (by omega) fun _ _ _ => ?_
        rw [Int.toNat_natCast, elast]
        refine ifB_false ?_
        refine fr13.sl.getR (by omega) (by omega) fun _ _ _ ai ni ci hai => ?_
        rw [Int.toNat_natCast, elast] at hai
        have hni := hai.len
        refine ifB_ne (fun h0 => ?_) (fun _ => ?_)
        · have hF : False := by simp at hni; omega
          cases hF
        have kpT3 : Kp [p] m9 m13 := kpT2.trans kp13.of_nil
        refine loop42_2 (γ := Nat) (fun k t i m' => i = k ∧ k ≤ rows.length ∧ m' = m13) (fun k _ _ => rows.length - k) 0 ⟨rfl, by omega, rfl⟩ ?_
        rintro k2 t i m' ⟨rfl, hk2, rfl⟩
        unfold s42_2
        rw [ew]
        refine ifB_lt (fun hlt5 => ?_) (fun hlt5 => ?_)
        · refine fr13.sl.getR (by omega) (by omega) fun _ _ _ ai ni ci hai => ?_
          have hkl : k2 < rows.length := by omega
          have eg : (rows ++ [(false, ([] : List Int))]).getD k2 (false, []) = rows.getD k2 (false, []) := by
            simp [List.getD, List.getElem?_append_left hkl]
          rw [Int.toNat_natCast, eg] at hai
          have hne := (l2 _ (List.mem_of_getElem? (getD_some hkl (false, [])))).2
          have hni := hai.len
          refine ifB_eq (fun h0 => ?_) (fun _ => ?_)
          · have hF : False := hne (List.eq_nil_of_length_eq_zero (by omega))
            cases hF
          exact ⟨k2 + 1, t, _, rfl, ⟨wrapS k2 (by omega), by omega, rfl⟩, by omega⟩
        · rw [e42_2x2]
          unfold s42_2x2
          rw [← nx8.x]
          refine tlive_spec (at9.keep kpT3 pnT) ?_
          intro la ln lc m14 ok14 kp14 fz14
          refine ⟨_, _, _, rfl, ?_⟩
          rw [es8, hw0.1] at fz14
          have fr14 := fr13.keep kp14
          have kpT4 : Kp [p] m9 m14 := kpT3.trans kp14.of_nil
          have fzq14 := fzq9.keep kpT4
          have g5T := kpT4.cell (b := b1) (by simp; omega) g59
          have hLs : Small (liveL σ.w) := ⟨by have := liveL_len σ.w; omega, fun l hl => by have := NF_len12 (liveL_NF hS.wg l hl); omega⟩
          have hRs : (rows ++ [(false, ([] : List Int))]).length < 2 ^ 30 ∧ ∀ r ∈ rows ++ [(false, ([] : List Int))], r.2.length < 2 ^ 36 := ⟨by rw [hRl]; omega, fun r hr => by have := NF_len12 (hn r hr); omega⟩
          have hQs2 : Q.length < 2 ^ 30 ∧ ∀ l ∈ Q, l.length < 2 ^ 36 := ⟨by have := hE.len; omega, fun l hl => by have := NF_len12 (hE.nf l hl); omega⟩
          refine ⟨?_, ?_, trivial⟩
          · refine adds_spec fr14.sl (by rw [hRl]; omega) hadds ?_
            refine ⟨_, rfl, ?_⟩
            refine ⟨_, g5T, ?_⟩
            refine ifB_eq (fun _ => ?_) (fun h0 => (h0 rfl).elim)
            refine logIsStore_spec fzq14.sl fr14.sl fz14.sl hQs2 hRs hLs ?_
            intro m15 ok15 kp15
            rw [log_store l3 l4]
            exact ⟨_, rfl, fin m15 ok15 (kpT4.trans kp15.of_nil)⟩
          · refine ⟨_, g5T, ?_⟩
            refine adds_spec fr14.sl (by rw [hRl]; omega) hadds ?_
            refine ⟨_, rfl, ?_⟩
            refine ifB_eq (fun _ => ?_) (fun h0 => (h0 rfl).elim)
            refine logIsStore_spec fzq14.sl fr14.sl fz14.sl hQs2 hRs hLs ?_
            intro m15 ok15 kp15
            rw [log_store l3 l4]
            exact ⟨_, rfl, fin m15 ok15 (kpT4.trans kp15.of_nil)⟩
      · refine alloc_row ok9 ?_
        intro b11 m10 hb11 hlt11 ok10 kp10 row10 bn10
        have t10 := kp10.top
        refine mparse_spec (zat9.pm.keep kp10 (by simp)) hparse ?_
        intro fa fn fc m11 ok11 kp11 pm11 fz11
        refine ⟨_, _, _, _, _, rfl, ?_⟩
        dsimp only at fz11 ⊢
        have t11 := kp11.top
        refine stL_put (n := 3) ok11 (bn10.keep kp11 (by simp; omega)) (by simp) one3s (by simp) ?_
        intro m11' ok11' kp11' row11 bn11
        have kpT : Kp [p] m9 m11' := (kp10.of_nil.trans kp11).step kp11' ok9 (fun b' hb' => .inr (by simp at hb'; omega))
        have rT : m11'.cell b11 2 = some (.slice fa fn fc) := row11.2.2.1
        have pmT := pm11.keep kp11' (by simp; omega)
        have fzT := fz11.keep kp11'
        have zT := kpT.cell (b := z) (by simp [zat2.dz.2]) zat9.c2
        refine ⟨_, zT, ?_⟩
        refine ⟨_, _, _, rT, ?_⟩
        refine mprint_spec pmT fzT.sl (fun hne b hb h0 => ?_) ?_
        · simp only [List.mem_singleton] at h0
          subst h0
          obtain ⟨f, x, y, hbf, hwr, _⟩ := pmT
          exact fz_ne fzT hbf hwr hne b hb (by simp)
        intro ps pe m12 ok12 kp12 pm12 pr12
        refine ⟨_, _, rfl, ?_⟩
        have hpe : pe = 0 ∧ bts ps = gPrint σ.log := by
          unfold PrintR at pr12
          rw [if_neg (by omega), if_pos hcf] at pr12
          exact pr12
        obtain ⟨hpe0, hpe1⟩ := hpe
        subst hpe0
        refine ifB_ne (fun h0 => ?_) (fun _ => ?_)
        · have hF : False := h0 rfl
          cases hF
        have kpT2 := kpT.trans kp12
        have g4T := kpT2.cell (b := b1) (by simp; omega) g49
        refine ⟨_, g4T, ?_⟩
        have hps : ps = pf := bts_inj (by rw [hpe1, hp])
        subst hps
        refine ifB_not (fun h0 => by simp at h0) (fun _ => ?_)
        refine ⟨_, _, _, kp12.cell (by simp; omega) rT, ?_⟩
        have fz12 := fzT.keep kp12
        refine rows_spec fz12.sl (by omega) hgr ?_
        intro sa sc m13 ok13 kp13 fr13
        refine ⟨_, _, _, rfl, ?_⟩
        have hRl : (rows ++ [(false, ([] : List Int))]).length = rows.length + 1 := by simp
        rw [hRl] at fr13
        rw [hRl]
        have ew : IntKind.wrap .i64 (((rows.length + 1 : Nat) : Int) - 1) = ((rows.length : Nat) : Int) := by rw [wrap_i64 (by omega) (by omega)]; omega
        refine ifB_eq (fun h0 => ?_) (fun _ => ?_)
        · have hF : False := by omega
          cases hF
        rw [ew]
        have elast : (rows ++ [(false, ([] : List Int))]).getD rows.length (false, []) = (false, []) := by simp [List.getD]
        refine fr13.sl.getD (by omega) (by omega) fun _ _ _ => ?_
        rw [Int.toNat_natCast, elast]
        refine ifB_false ?_
        refine fr13.sl.getR (by omega) (by omega) fun _ _ _ ai ni ci hai => ?_
        rw [Int.toNat_natCast, elast] at hai
        have hni := hai.len
        refine ifB_ne (fun h0 => ?_) (fun _ => ?_)
        · have hF : False := by simp at hni; omega
          cases hF
        have kpT3 : Kp [p] m9 m13 := kpT2.trans kp13.of_nil
        refine loop42_2 (γ := Nat) (fun k t i m' => i = k ∧ k ≤ rows.length ∧ m' = m13) (fun k _ _ => rows.length - k) 0 ⟨rfl, by omega, rfl⟩ ?_
        rintro k2 t i m' ⟨rfl, hk2, rfl⟩
        unfold s42_2
        rw [ew]
        refine ifB_lt (fun hlt5 => ?_) (fun hlt5 => ?_)
        · refine fr13.sl.getR (by omega) (by omega) fun _ _ _ ai ni ci hai => ?_
          have hkl : k2 < rows.length := by omega
          have eg : (rows ++ [(false, ([] : List Int))]).getD k2 (false, []) = rows.getD k2 (false, []) := by
            simp [List.getD, List.getElem?_append_left hkl]
          rw [Int.toNat_natCast, eg] at hai
          have hne := (l2 _ (List.mem_of_getElem? (getD_some hkl (false, [])))).2
          have hni := hai.len
          refine ifB_eq (fun h0 => ?_) (fun _ => ?_)
          · have hF : False := hne (List.eq_nil_of_length_eq_zero (by omega))
            cases hF
          exact ⟨k2 + 1, t, _, rfl, ⟨wrapS k2 (by omega), by omega, rfl⟩, by omega⟩
        · rw [e42_2x2]
          unfold s42_2x2
          rw [← nx8.x]
          refine tlive_spec (at9.keep kpT3 pnT) ?_
          intro la ln lc m14 ok14 kp14 fz14
          refine ⟨_, _, _, rfl, ?_⟩
          rw [es8, hw0.1] at fz14
          have fr14 := fr13.keep kp14
          have kpT4 : Kp [p] m9 m14 := kpT3.trans kp14.of_nil
          have fzq14 := fzq9.keep kpT4
          have g5T := kpT4.cell (b := b1) (by simp; omega) g59
          have hLs : Small (liveL σ.w) := ⟨by have := liveL_len σ.w; omega, fun l hl => by have := NF_len12 (liveL_NF hS.wg l hl); omega⟩
          have hRs : (rows ++ [(false, ([] : List Int))]).length < 2 ^ 30 ∧ ∀ r ∈ rows ++ [(false, ([] : List Int))], r.2.length < 2 ^ 36 := ⟨by rw [hRl]; omega, fun r hr => by have := NF_len12 (hn r hr); omega⟩
          have hQs2 : Q.length < 2 ^ 30 ∧ ∀ l ∈ Q, l.length < 2 ^ 36 := ⟨by have := hE.len; omega, fun l hl => by have := NF_len12 (hE.nf l hl); omega⟩
          refine ⟨?_, ?_, trivial⟩
          · refine adds_spec fr14.sl (by rw [hRl]; omega) hadds ?_
            refine ⟨_, rfl, ?_⟩
            refine ⟨_, g5T, ?_⟩
            refine ifB_eq (fun _ => ?_) (fun h0 => (h0 rfl).elim)
            refine logIsStore_spec fzq14.sl fr14.sl fz14.sl hQs2 hRs hLs ?_
            intro m15 ok15 kp15
            rw [log_store l3 l4]
            exact ⟨_, rfl, fin m15 ok15 (kpT4.trans kp15.of_nil)⟩
          · refine ⟨_, g5T, ?_⟩
            refine adds_spec fr14.sl (by rw [hRl]; omega) hadds ?_
            refine ⟨_, rfl, ?_⟩
            refine ifB_eq (fun _ => ?_) (fun h0 => (h0 rfl).elim)
            refine logIsStore_spec fzq14.sl fr14.sl fz14.sl hQs2 hRs hLs ?_
            intro m15 ok15 kp15
            rw [log_store l3 l4]
            exact ⟨_, rfl, fin m15 ok15 (kpT4.trans kp15.of_nil)⟩
end Go.Proofs.Qxb6500974aGreat
