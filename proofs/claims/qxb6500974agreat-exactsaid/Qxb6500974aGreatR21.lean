import Derived.Test.Qxb6500974aGreatR20
set_option linter.all false
set_option linter.unusedSimpArgs false
set_option linter.unusedVariables false
namespace Go.Proofs.Qxb6500974aGreat
open Go.Eng
variable {W0 : World}

structure CkAt (m : Mem) (k p : Nat) (aa : Option Addr) (S : Slots) : Prop where
  ch : ChAt m k p S
  pa : ∃ s, PaAt m p aa s
  d : k ∉ p :: blkOf aa
def footC (k p : Nat) (aa : Option Addr) : List Nat := k :: p :: blkOf aa
theorem CkAt.keep {X : List Nat} {m m' : Mem} {k p : Nat} {aa : Option Addr} {S : Slots} (h : CkAt m k p aa S) (hk : Kp X m m') (hs : ∀ x ∈ footC k p aa, x ∉ X) : CkAt m' k p aa S := by
  obtain ⟨h1, ⟨s, h2⟩, h3⟩ := h
  exact ⟨h1.keep hk (hs _ (by simp [footC])), ⟨s, h2.keep hk fun x hx => hs x (List.mem_cons_of_mem _ hx)⟩, h3⟩
theorem CkAt.lt {m : Mem} {k p : Nat} {aa : Option Addr} {S : Slots} (ok : m.Ok) (h : CkAt m k p aa S) : ∀ x ∈ footC k p aa, x < m.top := by
  obtain ⟨h1, ⟨s, h2⟩, h3⟩ := h
  intro x hx
  simp only [footC, List.mem_cons] at hx
  rcases hx with rfl | hx
  · exact h1.lt ok
  · exact h2.lt ok x (by simpa using hx)
def rCheck (tp tq : List UInt8) (Rp Rq : List (Bool × List Int)) : Int × Int × Int :=
  if (rParse tp).1 ≠ 0 then ((rParse tp).1, 0, (rParse tp).2.1)
  else if gSurvey 0 (rParse tp).2.2 ≠ 0 then (gSurvey 0 (rParse tp).2.2, 0, 0)
  else if (rParse tq).1 ≠ 0 then ((rParse tq).1, 1, (rParse tq).2.1)
  else gMC 0 (Rp.map Prod.snd) Rq
theorem ccheck_spec {k p : Nat} {aa : Option Addr} {S : Slots} {tp tq : ByteArray} {Rp Rq : List (Bool × List Int)} {K : Value → Mem → Prop} {m : Mem} (h : CkAt m k p aa S)
    (hRp : (rParse (bts tp)).2.2 = flatOf Rp ∧ (flatOf Rp).length < 2 ^ 40 ∧ ∀ r ∈ Rp, NF r.2) (hRq : (rParse (bts tq)).2.2 = flatOf Rq ∧ (flatOf Rq).length < 2 ^ 40 ∧ ∀ r ∈ Rq, NF r.2) (hsv : gSurvey 0 (flatOf Rp) = 0 → Rp.length ≤ 40)
    (hK : ∀ S' aa' m', m'.Ok → Kp (footC k p aa) m m' → InS (footC k p aa) m (footC k p aa') → CkAt m' k p aa' S' →
      K (.agg #[(.int .i64 (rCheck (bts tp) (bts tq) Rp Rq).1), (.int .i64 (rCheck (bts tp) (bts tq) Rp Rq).2.1), (.int .i64 (rCheck (bts tp) (bts tq) Rp Rq).2.2)]) m') : callOK Tryz.prog W0 12 [ptr k 0, .string tp, .string tq] K m := by
  refine callOK_ok fun ok => call12 ?_
  have hlt := h.lt ok
  unfold s12
  rw [zero41, zero73]
  intro b1 hb1
  have hk1 := Kp.new (S := []) ok hb1 (Blk.ofList [(.int .i64 0), (.int .i64 0), (.int .i64 0)])
  have bn1 : BlkN (m.new b1 (Blk.ofList [(.int .i64 0), (.int .i64 0), (.int .i64 0)])) b1 3 := BlkN.new b1 (by simp)
  have ok1 := ok.new hb1 (Blk.ofList [(.int .i64 0), (.int .i64 0), (.int .i64 0)])
  generalize m.new b1 (Blk.ofList [(.int .i64 0), (.int .i64 0), (.int .i64 0)]) = m1 at hk1 bn1 ok1
  have top1 := hk1.top
  have lt1 := bn1.lt ok1
  have h1 := h.keep hk1 (fun _ _ => by simp)
  obtain ⟨hch, ⟨s, hpa⟩, hd⟩ := h1
  have hch' := hch
  obtain ⟨c, q1, q2, q3⟩ := hch'
  refine ⟨_, q1.p, ?_⟩
  rw [q2]
  have pS : ∀ x, x ∈ p :: blkOf aa → x ∈ footC k p aa := fun x hx => List.mem_cons_of_mem _ hx
  have nb1 : b1 ∉ footC k p aa := fun h0 => by have := hlt b1 h0; omega

  have parse : ∀ (text : ByteArray) (aa2 : Option Addr) (m2 : Mem) (K2 : Value → Mem → Prop), m2.Ok → m1.top ≤ m2.top → Kp (footC k p aa) m m2 → InS (footC k p aa) m (p :: blkOf aa2) → ChAt m2 k p S → k ∉ p :: blkOf aa2 → (∃ s, PaAt m2 p aa2 s) → b1 ∉ p :: blkOf aa2 → BlkN m2 b1 3 →
      (∀ a n aa3 m3, m3.Ok → m2.top ≤ m3.top → Kp (footC k p aa) m m3 → InS (footC k p aa) m (p :: blkOf aa3) → ChAt m3 k p S → k ∉ p :: blkOf aa3 → (∃ s, PaAt m3 p aa3 s) → b1 ∉ p :: blkOf aa3 → BlkN m3 b1 3 → FzI m3 a n (rParse (bts text)).2.2 → Kp (p :: blkOf aa2) m2 m3 → InS (p :: blkOf aa2) m2 (p :: blkOf aa3) →
        K2 (.agg #[.int .i64 (rParse (bts text)).1, .int .i64 (rParse (bts text)).2.1, .slice a n n]) m3) →
      callOK Tryz.prog W0 25 [ptr p 0, .string text] K2 m2 := by
    intro text aa2 m2 K2 ok2 tp2 kp2 in2 hc2 nk2 hp2 nb2 bn2 hK2
    obtain ⟨s2, hp2⟩ := hp2
    refine rparse_spec hp2 ?_
    intro a n aa3 s3 m3 ok3 kp3 in3 hp3 fz3
    have ii := (sub_cons in3 : InS (p :: blkOf aa2) m2 (p :: blkOf aa3))
    have klt := hc2.lt ok2
    have blt := bn2.lt ok2
    refine hK2 a n aa3 m3 ok3 kp3.top (kp2.step kp3 ok in2) (in2.trans ii kp2.top) (hc2.keep kp3 nk2) ?_ ⟨s3, hp3⟩ ?_ (bn2.keep kp3 nb2) fz3 kp3 ii
    · intro h0
      rcases ii k h0 with h | h
      · exact nk2 h
      · omega
    · intro h0
      rcases ii b1 h0 with h | h
      · exact nb2 h
      · omega
  have wr1 : ∀ {m5 m6 : Mem}, Kp (footC k p aa) m m5 → Kp [b1] m5 m6 → Kp (footC k p aa) m m6 := fun h h' => h.step h' ok (fun b' hb' => .inr (by simp at hb'; omega))
  have nk1 : k ∉ [b1] := fun h0 => nb1 (by simp at h0; simp [footC, h0])
  have n1k : b1 ∉ [k] := fun h0 => nb1 (by simp at h0; simp [footC, h0])

  have give : ∀ (e w i : Int) (S5 : Slots) (aa5 : Option Addr) (m5 : Mem), (∀ S' aa' m', m'.Ok → Kp (footC k p aa) m m' → InS (footC k p aa) m (footC k p aa') → CkAt m' k p aa' S' → K (.agg #[(.int .i64 e), (.int .i64 w), (.int .i64 i)]) m') → m5.Ok → Kp (footC k p aa) m m5 → InS (footC k p aa) m (p :: blkOf aa5) → ChAt m5 k p S5 → k ∉ p :: blkOf aa5 → (∃ s, PaAt m5 p aa5 s) → b1 ∉ p :: blkOf aa5 → BlkN m5 b1 3 →
      stL m5 b1 0 [(.int .i64 e), (.int .i64 w), (.int .i64 i)] fun m_18 => ldInt .i64 m_18 b1 0 fun x_19 => ldInt .i64 m_18 b1 1 fun x_20 => ldInt .i64 m_18 b1 2 fun x_21 => K (.agg #[(.int .i64 x_19), (.int .i64 x_20), (.int .i64 x_21)]) m_18 := by
    intro e w i S5 aa5 m5 hK5 ok5 kp5 in5 hc5 nk5 hp5 nb5 bn5
    obtain ⟨s5, hp5⟩ := hp5
    refine stl3 ok5 bn5 ?_
    intro m6 ok6 kp6
    refine hK5 S5 aa5 m6 ok6 (wr1 kp5 kp6) ?_ ⟨hc5.keep kp6 nk1, ⟨s5, hp5.keep kp6 ?_⟩, nk5⟩
    · intro x hx
      simp only [footC, List.mem_cons] at hx
      rcases hx with rfl | hx
      · exact .inl (by simp [footC])
      · exact in5 x (by simpa using hx)
    · intro x hx h0
      simp at h0; subst h0
      exact nb5 hx
  have refu : ∀ (e w i : Int) (S5 : Slots) (aa5 : Option Addr) (m5 : Mem), (∀ S' aa' m', m'.Ok → Kp (footC k p aa) m m' → InS (footC k p aa) m (footC k p aa') → CkAt m' k p aa' S' → K (.agg #[(.int .i64 e), (.int .i64 w), (.int .i64 i)]) m') → m5.Ok → Kp (footC k p aa) m m5 → InS (footC k p aa) m (p :: blkOf aa5) → ChAt m5 k p S5 → k ∉ p :: blkOf aa5 → (∃ s, PaAt m5 p aa5 s) → b1 ∉ p :: blkOf aa5 → BlkN m5 b1 3 →
      callOK Tryz.prog W0 36 [.int .i64 e, .int .i64 w, .int .i64 i] (fun rm_17 m_17 => ∃ x_14 x_15 x_16, rm_17 = (.agg #[(.int .i64 x_14), (.int .i64 x_15), (.int .i64 x_16)]) ∧ stL m_17 b1 0 [(.int .i64 x_14), (.int .i64 x_15), (.int .i64 x_16)] fun m_18 => ldInt .i64 m_18 b1 0 fun x_19 => ldInt .i64 m_18 b1 1 fun x_20 => ldInt .i64 m_18 b1 2 fun x_21 => K (.agg #[(.int .i64 x_19), (.int .i64 x_20), (.int .i64 x_21)]) m_18) m5 := by
    intro e w i S5 aa5 m5 hK5 ok5 kp5 in5 hc5 nk5 hp5 nb5 bn5
    obtain ⟨s5, hp5⟩ := hp5
    refine refused_spec ?_
    intro m6 ok6 kp6
    refine ⟨_, _, _, rfl, ?_⟩
    exact give e w i S5 aa5 m6 hK5 ok6 (kp5.trans kp6.of_nil) in5 (hc5.keep kp6 (by simp)) nk5 ⟨s5, hp5.keep kp6 (fun _ _ => by simp)⟩ nb5 (bn5.keep kp6 (by simp))
  refine parse tp aa m1 _ ok1 (Nat.le_refl _) hk1.of_nil (fun x hx => .inl (pS x hx)) hch hd ⟨s, hpa⟩ (fun h0 => nb1 (pS _ h0)) bn1 ?_
  intro a2 n2 aa2 m2 ok2 tp2 kp2 in2 hc2 nk2 hp2 nb2 bn2 fz2 _ _
  refine ⟨_, _, _, _, _, rfl, ?_⟩
  unfold rCheck at hK
  rw [hRp.1] at fz2 hK
  generalize rParse (bts tp) = P at hK hRp ⊢
  intro b3 hb3
  have hk3 := Kp.new (S := []) ok2 hb3 (Blk.ofList [.int .i64 0, .int .i64 0, .slice none 0 0])
  have bn3 : BlkN (m2.new b3 (Blk.ofList [.int .i64 0, .int .i64 0, .slice none 0 0])) b3 3 := BlkN.new b3 (by simp)
  have ok3 := ok2.new hb3 (Blk.ofList [.int .i64 0, .int .i64 0, .slice none 0 0])
  generalize m2.new b3 (Blk.ofList [.int .i64 0, .int .i64 0, .slice none 0 0]) = m3 at hk3 bn3 ok3
  refine stL_put ok3 bn3 (by simp) (by intro v hv; simp at hv; rcases hv with rfl | rfl | rfl <;> rfl) (by simp) ?_
  intro m4 ok4 kp4 row4 bn4
  have top2 := kp2.top
  have lt2 := bn2.lt ok2
  obtain ⟨s2, hp2⟩ := hp2
  have hlp2 := hp2.lt ok2
  have hk2lt := hc2.lt ok2
  have n3 : ∀ x ∈ p :: blkOf aa2, x ∉ [b3] := fun x hx => by have := hlp2 x hx; simp; omega
  have hp4 := (hp2.keep hk3 (fun _ _ => by simp)).keep kp4 n3
  have hc4 := (hc2.keep hk3 (by simp)).keep kp4 (by simp; omega)
  have bn14 := (bn2.keep hk3 (by simp)).keep kp4 (by simp; omega)
  have kf4 : Kp (footC k p aa) m m4 := (kp2.trans hk3.of_nil).step kp4 ok (fun b' hb' => .inr (by simp at hb'; omega))
  have fz4 := (fz2.keep hk3).keep kp4
  obtain ⟨r0, r1, r2, _⟩ := row4
  refine ⟨_, r0, ?_⟩
  refine ifB_ne (fun hne => ?_) (fun he => ?_)
  · rw [if_pos hne] at hK
    refine ⟨_, r0, _, r1, ?_⟩
    exact refu _ _ _ S aa2 m4 hK ok4 kf4 in2 hc4 nk2 ⟨s2, hp4⟩ nb2 bn14
  · rw [if_neg (by simpa using he)] at hK
    refine ⟨_, _, _, r2, ?_⟩
    refine fit_spec fz4.sl (by omega) rfl ⟨_, rfl, ?_⟩
    generalize hS : gSurvey 0 (flatOf Rp) = sv at hK hsv ⊢
    refine ifB_ne (fun hne2 => ?_) (fun he2 => ?_)
    · rw [if_pos hne2] at hK
      exact refu _ _ _ S aa2 m4 hK ok4 kf4 in2 hc4 nk2 ⟨s2, hp4⟩ nb2 bn14
    · rw [if_neg (by simpa using he2)] at hK
      have hR40 := hsv he2
      have hc4' := hc4
      obtain ⟨c4, u1, u2, u3⟩ := hc4'
      refine ⟨_, u1.p, ?_⟩
      rw [u2]
      have b3lt := bn4.lt ok4
      have b3n : b3 ∉ p :: blkOf aa2 := fun h0 => n3 b3 h0 (by simp)
      have t14 : m1.top ≤ m4.top := by have := hk3.top; have := kp4.top; omega
      refine parse tq aa2 m4 _ ok4 t14 kf4 in2 hc4 nk2 ⟨s2, hp4⟩ nb2 bn14 ?_
      intro a5 n5 aa5 m5 ok5 tp5 kp5 in5 hc5 nk5 hp5 nb5 bn5 fz5 kd5 id5
      refine ⟨_, _, _, _, _, rfl, ?_⟩
      rw [hRq.1] at fz5
      generalize rParse (bts tq) = Q at hK hRq ⊢
      have q2' := kd5.cell b3n r2
      have b3n5 : b3 ∉ p :: blkOf aa5 := by
        intro h0
        rcases id5 b3 h0 with h | h
        · exact b3n h
        · omega
      intro b6 hb6
      have hk6 := Kp.new (S := []) ok5 hb6 (Blk.ofList [.int .i64 0, .int .i64 0, .slice none 0 0])
      have bn6 : BlkN (m5.new b6 (Blk.ofList [.int .i64 0, .int .i64 0, .slice none 0 0])) b6 3 := BlkN.new b6 (by simp)
      have ok6 := ok5.new hb6 (Blk.ofList [.int .i64 0, .int .i64 0, .slice none 0 0])
      generalize m5.new b6 (Blk.ofList [.int .i64 0, .int .i64 0, .slice none 0 0]) = m6 at hk6 bn6 ok6
      refine stL_put ok6 bn6 (by simp) (by intro v hv; simp at hv; rcases hv with rfl | rfl | rfl <;> rfl) (by simp) ?_
      intro m7 ok7 kp7 row7 bn7
      have top5 := kp5.top
      have lt5 := bn5.lt ok5
      obtain ⟨s5, hp5⟩ := hp5
      have hlp5 := hp5.lt ok5
      have hk5lt := hc5.lt ok5
      have n6 : ∀ x ∈ p :: blkOf aa5, x ∉ [b6] := fun x hx => by have := hlp5 x hx; simp; omega
      have hp7 := (hp5.keep hk6 (fun _ _ => by simp)).keep kp7 n6
      have nk6 : k ∉ [b6] := by simp; omega
      have n6k : b6 ∉ [k] := by simp; omega
      have hc7 := (hc5.keep hk6 (by simp)).keep kp7 nk6
      have bn17 := (bn5.keep hk6 (by simp)).keep kp7 (by simp; omega)
      have kf7 : Kp (footC k p aa) m m7 := (kp5.trans hk6.of_nil).step kp7 ok (fun b' hb' => .inr (by simp at hb'; omega))
      have fz7 := (fz5.keep hk6).keep kp7
      have fzp7 := ((fz4.keep kd5).keep hk6).keep kp7
      have q27 := kp7.cell (b := b3) (by simp; omega) (hk6.cell (by simp) q2')
      obtain ⟨w0, w1, w2, _⟩ := row7
      refine ⟨_, w0, ?_⟩
      refine ifB_ne (fun hne3 => ?_) (fun he3 => ?_)
      · rw [if_pos hne3] at hK
        refine ⟨_, w0, _, w1, ?_⟩
        exact refu _ _ _ S aa5 m7 hK ok7 kf7 in5 hc7 nk5 ⟨s5, hp7⟩ nb5 bn17
      · rw [if_neg (by simpa using he3)] at hK
        have n3k : b3 ∉ [k] := by simp; omega
        have npk : ∀ x ∈ p :: blkOf aa5, x ∉ [k] := fun x hx h0 => by simp at h0; subst h0; exact nk5 hx
        refine cwipe_spec hc7 ?_
        intro m8 ok8 kp8 hc8
        refine ⟨rfl, ?_⟩
        refine ⟨_, _, _, kp8.cell n3k q27, ?_⟩
        refine cload_spec hc8 (fzp7.keep kp8) hRp.2.1 hRp.2.2 hR40 ?_
        intro S9 m9 ok9 kp9 hc9 hrel9
        refine ⟨rfl, ?_⟩
        refine ⟨_, _, _, kp9.cell n6k (kp8.cell n6k w2), ?_⟩
        refine follow_spec hc9 hrel9 ((fz7.keep kp8).keep kp9) hRq.2.1 hRq.2.2 ?_
        intro S10 m10 ok10 kp10 hc10
        refine ⟨_, _, _, rfl, ?_⟩
        have kk := (kp8.trans kp9).trans kp10
        exact give _ _ _ S10 aa5 m10 hK ok10 (kf7.trans (kk.mono (by simp [footC]))) in5 hc10 nk5 ⟨s5, hp7.keep kk npk⟩ nb5 (bn17.keep kk n1k)

theorem and_none {p n : Int} {l : List Int} (hl : NF l) (hb : RowBits p n l) : bAnd .u16 p n = 0 := by
  have a := u16_and hb.1.1 hb.2.1
  refine (zero16 a.1).2 fun i hi => ?_
  rw [a.2, hb.1.2 i hi, hb.2.2 i hi]
  have hd := sorted_vars hl.2
  rw [Bool.and_eq_false_iff]
  by_cases h1 : ((i + 1 : Nat) : Int) ∈ l
  · right
    refine decide_eq_false fun h2 => ?_
    have : ∀ a ∈ l, ∀ b ∈ l, a ≠ b → a.natAbs ≠ b.natAbs := by
      intro a ha b hb hab
      rw [List.pairwise_iff_getElem] at hd
      obtain ⟨i, hi, rfl⟩ := List.mem_iff_getElem.1 ha
      obtain ⟨j, hj, rfl⟩ := List.mem_iff_getElem.1 hb
      rcases Nat.lt_trichotomy i j with h | h | h
      · exact hd i j hi hj h
      · subst h; exact absurd rfl hab
      · exact fun h0 => hd j i hj hi h h0.symm
    exact this _ h1 _ h2 (by omega) (by omega)
  · exact .inl (decide_eq_false h1)
theorem or_low {p n : Int} {l : List Int} (hl : NF l) (hb : RowBits p n l) : bAndNot .u16 (bOr .u16 p n) 4095 = 0 := by
  have o := u16_or hb.1.1 hb.2.1
  have hm : U16 4095 := ⟨by omega, by omega⟩
  have a := u16_andNot o.1 hm
  refine (zero16 a.1).2 fun i hi => ?_
  rw [a.2 i hi, o.2, hb.1.2 i hi, hb.2.2 i hi]
  by_cases h12 : i < 12
  · have : tb 4095 i = true := by
      have e : (4095 : Int).toNat = 2 ^ 12 - 1 := rfl
      unfold tb
      rw [e, Nat.testBit_two_pow_sub_one]
      simp [h12]
    rw [this]; simp
  · have h1 : ¬ ((i + 1 : Nat) : Int) ∈ l := fun h0 => by have := good_abs (hl.1 _ h0); omega
    have h2 : ¬ -((i + 1 : Nat) : Int) ∈ l := fun h0 => by have := good_abs (hl.1 _ h0); omega
    rw [decide_eq_false h1, decide_eq_false h2]; rfl
theorem clean_spec {k p : Nat} {S : Slots} {K : Value → Mem → Prop} {m : Mem} (h : ChAt m k p S) (hK : K (.bool true) m) : callOK Tryz.prog W0 17 [ptr k 0] K m := by
  refine call17 ?_
  obtain ⟨c, h1, h2, h3⟩ := h
  unfold s17
  refine loop17_1 (γ := Nat) (fun i t2 ct s m' => m' = m ∧ s = i ∧ i ≤ 64 ∧ ct = ((cntB (fun s => decide (S s = some [])) i : Nat) : Int)) (fun i _ _ _ => 64 - i) 0 ⟨rfl, rfl, by omega, rfl⟩ ?_
  rintro i t2 ct s m' ⟨rfl, rfl, hi, rfl⟩
  have hcl := cntB_le (fun s => decide (S s = some [])) i
  unfold s17_1
  refine ifB_lt (fun hlt => ?_) (fun hlt => ?_)
  · have hi64 : i < 64 := by omega
    have hrow := h3.row i hi64
    refine ⟨by omega, by omega, ?_⟩
    simp only [Int.toNat_natCast]
    refine ⟨_, h1.pos hi64, ?_⟩
    refine ⟨by omega, by omega, ?_⟩
    simp only [Int.toNat_natCast]
    refine ⟨_, h1.neg hi64, _, h1.used, ?_⟩
    dsimp only
    rw [hasb64' h3.used.1 hi64, h3.used.2 i hi64]
    cases hS : S i with
    | none =>
      rw [hS] at hrow
      have hz := (hrow.empty (l := []) ⟨by simp, by simp⟩).2 rfl
      rw [hz]
      with_reducible refine ifB_of (fun _ => ?_) (fun h0 => by simp at h0)
      with_reducible refine ifB_ne (fun h0 => absurd rfl h0) (fun _ => ?_)
      refine ⟨i + 1, _, _, _, rfl, ⟨rfl, wrapS i (by omega), by omega, ?_⟩, by omega⟩
      simp only [cntB]
      simp [hS]
    | some l =>
      rw [hS] at hrow
      have hl := h3.nf i l hS
      have hrow : RowBits (c.pos i) (c.neg i) l := hrow
      rw [and_none hl hrow, or_low hl hrow]
      with_reducible refine ifB_of (fun h0 => by simp at h0) (fun _ => ?_)
      with_reducible refine ifB_ne (fun h0 => absurd rfl h0) (fun _ => ?_)
      with_reducible refine ifB_ne (fun h0 => absurd rfl h0) (fun _ => ?_)
      have he := hrow.empty hl
      refine ifB_eq (fun e0 => ?_) (fun e0 => ?_)
      · refine ⟨i + 1, _, _, _, rfl, ⟨rfl, wrapS i (by omega), by omega, ?_⟩, by omega⟩
        simp only [cntB]
        have : l = [] := he.1 e0
        rw [if_pos (by rw [hS, this]; simp), wrap_i64 (by omega) (by omega)]; omega
      · refine ⟨i + 1, _, _, _, rfl, ⟨rfl, wrapS i (by omega), by omega, ?_⟩, by omega⟩
        simp only [cntB]
        have : l ≠ [] := fun h0 => e0 (he.2 h0)
        rw [if_neg (by rw [hS]; simp [this])]; omega
  · have : i = 64 := by omega
    subst this
    rw [e17_1x0]
    unfold s17_1x0
    refine ⟨_, h1.empties, ?_⟩
    rw [h3.emp]
    refine ifB_eq (fun _ => ?_) (fun h0 => absurd rfl h0)
    exact ⟨_, h1.p, hK⟩
end Go.Proofs.Qxb6500974aGreat
