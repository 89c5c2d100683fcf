import Derived.Test.Qxb6500974aGreatR11
set_option linter.all false
set_option linter.unusedSimpArgs false
set_option linter.unusedVariables false
namespace Go.Proofs.Qxb6500974aGreat
open Go.Eng
variable {W0 : World}

theorem fz_ne {m : Mem} {a : Option Addr} {n : Nat} {l : List Int} {b : Nat} {f : Blk} (h : FzI m a n l) (hb : m.blk b = some f) (hw : f.wr = true) (hl : l ≠ []) : ∀ x ∈ blkOf a, x ∉ [b] := by
  intro x hx
  rcases h.2 with ⟨h0, _⟩ | ⟨b', o, f', rfl, h1, h2, _⟩
  · exact absurd h0 hl
  · simp [blkOf] at hx
    subst hx
    simp only [List.mem_singleton]
    intro h0
    subst h0
    rw [hb] at h1
    cases h1
    rw [hw] at h2
    cases h2
theorem WAt.wr {m : Mem} {b t : Nat} {w : Wt} (h : WAt m b t w) : ∃ f, m.blk b = some f ∧ f.wr = true := by
  obtain ⟨g, c, ⟨f, h1, h2, _⟩, _⟩ := h
  exact ⟨f, h1, h2⟩

def gDrop (σ : St) (k : Nat) : St := { σ with w := fupd σ.w (40 + k) ⟨0, []⟩, log := gNote true (nf (σ.w (40 + k)).lits) σ.log, alive := fupd σ.alive k false, count := σ.count - 1 }
def gForgetA : Nat → Nat → St → St
  | 0, _, σ => σ
  | n + 1, k, σ => if σ.count > 2 then
      (if σ.alive k = true then (if lockedA σ.t (40 + k) (σ.w (40 + k)).lits = true then gForgetA n (k + 1) σ else gForgetA n (k + 1) (gDrop σ k)) else gForgetA n (k + 1) σ)
    else σ
def gForget (σ : St) : St := if σ.count < 4 then σ else gForgetA 12 0 σ
theorem forget_spec {B : Bk} {la : Option Addr} {σ : St} {K : Value → Mem → Prop} {m : Mem} (hd : B.Dist) (h : Sat m B la σ) (hal : ∀ k, k < 12 → σ.alive k = true → (σ.w (40 + k)).st ≠ 0) (hlog : σ.log.length ≤ 2 ^ 29) (hcount : σ.count ≤ 100)
    (hK : ∀ la' m', m'.Ok → Kp (foot B la) m m' → InS (blkOf la) m (blkOf la') → Sat m' B la' (gForget σ) → K (.tuple #[]) m') : callOK Tryz.prog W0 61 [ptr B.s 0] K m := by
  refine callOK_ok fun ok => call61 ?_
  obtain ⟨N, hN, hlogN⟩ : ∃ N, N ≤ 536870912 ∧ σ.log.length ≤ N := ⟨σ.log.length, by omega, by omega⟩
  clear hlog
  unfold s61
  obtain ⟨c, hc⟩ := h.s
  refine ⟨_, hc.so.count, ?_⟩
  rw [hc.rep.count]
  unfold gForget at hK
  refine ifB_lt (fun hlt => ?_) (fun hlt => ?_)
  · rw [if_pos (by omega)] at hK
    exact hK la m ok (Kp.refl _ _) (InS.self _ _) h
  · rw [if_neg (by omega)] at hK
    obtain ⟨r, hr⟩ : ∃ r, gForgetA 12 0 σ = r := ⟨_, rfl⟩
    rw [hr] at hK
    have sub : ∀ {x : Option Addr}, InS (blkOf la) m (blkOf x) → InS (foot B la) m (foot B x) := by
      intro x hx y hy
      simp only [foot, List.mem_cons] at hy ⊢
      rcases hy with rfl | rfl | rfl | rfl | hy
      · simp
      · simp
      · simp
      · simp
      · rcases hx y hy with h | h
        · simp [h]
        · exact .inr h
    refine loop61_1 (γ := Nat × Option Addr × St) (fun g k m' => k = g.1 ∧ g.1 ≤ 12 ∧ m'.Ok ∧ Kp (foot B la) m m' ∧ InS (blkOf la) m (blkOf g.2.1) ∧ Sat m' B g.2.1 g.2.2 ∧ (∀ k, k < 12 → g.2.2.alive k = true → (g.2.2.w (40 + k)).st ≠ 0) ∧ g.2.2.log.length ≤ N + 14 * g.1 ∧ g.2.2.count ≤ 100 ∧ gForgetA (12 - g.1) g.1 g.2.2 = r) (fun g _ => 12 - g.1) (0, la, σ)
      ⟨rfl, by dsimp only; omega, ok, Kp.refl _ _, InS.self _ _, h, hal, by dsimp only; omega, hcount, hr⟩ ?_
    rintro ⟨k, la1, s1⟩ kk m1 ⟨rfl, hk, ok1, kp1, in1, h1, hal1, hlog1, hct1, hj⟩
    dsimp only at hk in1 h1 hal1 hlog1 hct1 hj ⊢
    obtain ⟨c1, hc1⟩ := h1.s
    unfold s61_1
    refine ifB_lt (fun hlt1 => ?_) (fun hlt1 => ?_)
    · have ef : 12 - k = (12 - (k + 1)) + 1 := by omega
      rw [ef] at hj
      simp only [gForgetA] at hj
      refine ⟨_, hc1.so.count, ?_⟩
      rw [hc1.rep.count]
      refine ifB_gt (fun hgt => ?_) (fun hgt => ?_)
      · rw [if_pos (by omega)] at hj
        refine ⟨wrap_u64_nonneg _, ?_⟩
        rw [shl16 (show k < 16 by omega)]
        refine ⟨_, hc1.so.alive, ?_⟩
        dsimp only
        have hw40 : IntKind.wrap .i64 (40 + (k : Int)) = ((40 + k : Nat) : Int) := by rw [wrap_i64 (by omega) (by omega)]; omega
        rw [hw40]
        have hbit : (bAnd .u16 c1.alive ((2 ^ k : Nat) : Int) != 0) = s1.alive k := by
          have := hasb16 hc1.rep.alive.1 (show k < 16 by omega)
          rw [goBit16_eq (by omega)] at this
          rw [this, hc1.rep.alive.2 k (by omega)]
        rw [hbit]
        refine ifB_of (fun ha => ?_) (fun ha => ?_)
        · rw [if_pos ha] at hj
          have hst := hal1 k (by omega) ha
          refine ⟨_, hc1.so.w, ?_⟩
          rw [hc1.w]
          have hl : liveB s1.w ((40 + k : Nat) : Int) = true := by simp only [liveB, Int.toNat_natCast]; simp [hst]; omega
          refine clause_spec h1.w (fun hdead => by rw [hl] at hdead; cases hdead) (fun _ a2 n2 c2 m2 ok2 kp2 fz2 => ?_)
          refine ⟨_, _, _, _, rfl, ?_⟩
          simp only [Int.toNat_natCast] at fz2
          have h2 := h1.keep kp2 (fun _ _ => by simp)
          obtain ⟨c2', hc2⟩ := h2.s
          refine ⟨_, hc2.so.w, ?_⟩
          rw [hc2.w]
          refine remove_spec h2.w h2.t (fun h0 => hd.tw h0.symm) (by omega) hst (fun hlk => ?_) (fun hlk m3 ok3 kp3 hw3 => ?_)
          · rw [if_pos hlk] at hj
            refine ⟨_, rfl, ?_⟩
            with_reducible refine ifB_eq (fun h0 => by cases h0) (fun _ => ?_)
            exact ⟨(k + 1, la1, s1), _, rfl, ⟨wrapS k (by omega), by dsimp only; omega, ok2, kp1.trans kp2.of_nil, in1, h2, hal1, by dsimp only; omega, hct1, hj⟩, by dsimp only; omega⟩
          · rw [if_neg (by rw [hlk]; simp)] at hj
            refine ⟨_, rfl, ?_⟩
            with_reducible refine ifB_eq (fun _ => ?_) (fun h0 => absurd rfl h0)
            have nw : ∀ x, x = B.t ∨ x = B.l ∨ x = B.s ∨ x ∈ blkOf la1 → x ∉ [B.w] := by
              intro x hx
              simp only [List.mem_singleton]
              rcases hx with rfl | rfl | rfl | hx
              · exact hd.tw
              · exact fun h0 => hd.wl h0.symm
              · exact fun h0 => hd.ws h0.symm
              · exact (h2.d x hx).2.1
            have h3 : Sat m3 B la1 { s1 with w := fupd s1.w (40 + k) ⟨0, []⟩ } := by
              have := hc2.keep kp3 (nw _ (by simp)) (fun x hx => nw x (by simp [hx]))
              exact ⟨h2.t.keep kp3 (nw _ (by simp)), hw3, h2.l.keep kp3 (nw _ (by simp)), ⟨c2', this.so, this.p, this.t, this.w, this.l, this.la, this.own, ⟨this.rep.act, this.rep.phase, this.rep.inc, this.rep.alive, this.rep.count, this.rep.conf, this.rep.rest, this.rep.since⟩⟩, h2.d⟩
            have hq := h2.w.nfgood (40 + k)
            refine note_spec hd h3 (fz2.keep kp3) (by dsimp only; omega) (by omega) ?_
            intro la4 m4 ok4 kp4 in4 h4
            refine ⟨rfl, ?_⟩
            obtain ⟨c4, hc4⟩ := h4.s
            refine ⟨_, hc4.so.alive, ?_⟩
            refine hc4.so.st_alive ok4 ?_
            intro m5 ok5 kp5 b5
            refine ⟨_, b5.count, ?_⟩
            refine b5.st_count ok5 ?_
            intro m6 ok6 kp6 b6
            have k12 : Kp (foot B la) m m2 := kp1.trans kp2.of_nil
            have k13 : Kp (foot B la) m m3 := k12.trans (kp3.mono (by simp [foot]))
            have k14 : Kp (foot B la) m m4 := k13.step kp4 ok (sub in1)
            have k16 : Kp (foot B la) m m6 := k14.trans ((kp5.trans kp6).mono (by simp [foot]))
            have ca : U16 (bAndNot .u16 c4.alive ((2 ^ k : Nat) : Int)) ∧ ∀ i, i < 16 → tb (bAndNot .u16 c4.alive ((2 ^ k : Nat) : Int)) i = fupd s1.alive k false i := by
              have ua := u16_andNot hc4.rep.alive.1 (u16_pow (show k < 16 by omega))
              refine ⟨ua.1, fun i hi => ?_⟩
              rw [ua.2 i hi, tb_pow, hc4.rep.alive.2 i hi]
              dsimp only
              by_cases he : i = k
              · subst he; rw [fupd_at]; simp
              · rw [fupd_ne _ _ he]; simp [he]
            refine ⟨(k + 1, la4, gDrop s1 k), _, rfl, ⟨wrapS k (by omega), by dsimp only; omega, ok6, k16, in1.trans in4 k13.top, ?_, ?_, ?_, ?_, hj⟩, by dsimp only; omega⟩
            · refine Sat.own hd h4 hc4 (kp5.trans kp6) b6 ⟨rfl, rfl, rfl, rfl, rfl⟩ ⟨hc4.rep.act, hc4.rep.phase, hc4.rep.inc, ca, ?_, hc4.rep.conf, hc4.rep.rest, hc4.rep.since⟩ rfl rfl rfl
              show IntKind.wrap .i64 (c4.count - 1) = ((s1.count - 1 : Nat) : Int)
              rw [hc4.rep.count]
              dsimp only
              rw [wrap_i64 (by omega) (by omega)]; omega
            · intro j hj1 hj2
              dsimp only [gDrop] at hj2 ⊢
              by_cases he : j = k
              · subst he; rw [fupd_at] at hj2; cases hj2
              · rw [fupd_ne _ _ he] at hj2
                rw [fupd_ne _ _ (by omega)]; exact hal1 j hj1 hj2
            · dsimp only [gDrop, gNote]
              simp
              omega
            · dsimp only [gDrop]; omega
        · rw [if_neg (by rw [ha]; simp)] at hj
          exact ⟨(k + 1, la1, s1), _, rfl, ⟨wrapS k (by omega), by dsimp only; omega, ok1, kp1, in1, h1, hal1, by dsimp only; omega, hct1, hj⟩, by dsimp only; omega⟩
      · rw [if_neg (by omega)] at hj
        subst hj
        rw [e61_1x0]
        exact hK la1 m1 ok1 kp1 in1 h1
    · have : k = 12 := by omega
      subst this
      simp only [Nat.sub_self, gForgetA] at hj
      subst hj
      rw [e61_1x0]
      exact hK la1 m1 ok1 kp1 in1 h1

def gPickA (t : Tr) (act : Nat → Int) : Nat → Nat → Nat → Nat
  | 0, _, best => best
  | n + 1, v, best => if t.value v = 0 then (if best = 0 then gPickA t act n (v + 1) v else if act v > act best then gPickA t act n (v + 1) v else gPickA t act n (v + 1) best) else gPickA t act n (v + 1) best
def gPick (σ : St) : Int := (gPickA σ.t σ.act 12 1 0 : Nat) * σ.phase (gPickA σ.t σ.act 12 1 0)
theorem pick_spec {B : Bk} {la : Option Addr} {σ : St} {K : Value → Mem → Prop} {m : Mem} (h : Sat m B la σ) (hph : ∀ v, v < 13 → σ.phase v = 1 ∨ σ.phase v = -1) (hK : K (.int .i64 (gPick σ)) m) : callOK Tryz.prog W0 34 [ptr B.s 0] K m := by
  refine call34 ?_
  unfold s34
  obtain ⟨c, hc⟩ := h.s
  obtain ⟨r, hr⟩ : ∃ r, gPickA σ.t σ.act 12 1 0 = r := ⟨_, rfl⟩
  unfold gPick at hK
  rw [hr] at hK
  refine loop34_1 (γ := Nat × Nat) (fun g best v m' => m' = m ∧ v = ((13 - g.1 : Nat) : Int) ∧ g.1 ≤ 12 ∧ best = g.2 ∧ g.2 ≤ 12 ∧ gPickA σ.t σ.act g.1 (13 - g.1) g.2 = r) (fun g _ _ => g.1) (12, 0)
    ⟨rfl, rfl, by dsimp only; omega, rfl, by dsimp only; omega, hr⟩ ?_
  rintro ⟨k, bs⟩ best v m1 ⟨rfl, rfl, hk, rfl, hb, hj⟩
  dsimp only at hk hb hj ⊢
  unfold s34_1
  refine ifB_le (fun hle => ?_) (fun hle => ?_)
  · obtain ⟨n, rfl⟩ : ∃ n, k = n + 1 := ⟨k - 1, by omega⟩
    obtain ⟨v, hv⟩ : ∃ v, 13 - (n + 1) = v := ⟨_, rfl⟩
    have hv2 : 13 - n = v + 1 := by omega
    rw [hv] at hj ⊢
    simp only [gPickA] at hj
    have hwv : IntKind.wrap .i64 ((v : Int) + 1) = ((13 - n : Nat) : Int) := by rw [wrap_i64 (by omega) (by omega)]; omega
    rw [hwv]
    refine ⟨_, hc.so.t, ?_⟩
    rw [hc.t]
    refine value_spec h.t ⟨_, rfl, ?_⟩
    have go : ∀ b', b' ≤ 12 → gPickA σ.t σ.act n (v + 1) b' = r → gPickA σ.t σ.act n (13 - n) b' = r := fun b' _ h0 => by rw [hv2]; exact h0
    refine ifB_eq (fun hz => ?_) (fun hz => ?_)
    · rw [if_pos hz] at hj
      refine ifB_eq (fun hb0 => ?_) (fun hb0 => ?_)
      · rw [if_pos (by omega)] at hj
        exact ⟨(n, v), _, _, rfl, ⟨rfl, rfl, by dsimp only; omega, rfl, by dsimp only; omega, go v (by omega) hj⟩, by dsimp only; omega⟩
      · rw [if_neg (by omega)] at hj
        refine ⟨by omega, by omega, ?_⟩
        simp only [Int.toNat_natCast]
        refine ⟨_, hc.so.act (by omega), ?_⟩
        refine ⟨by omega, by omega, ?_⟩
        simp only [Int.toNat_natCast]
        refine ⟨_, hc.so.act (by omega), ?_⟩
        dsimp only
        rw [hc.rep.act v (by omega), hc.rep.act bs (by omega)]
        refine ifB_gt (fun hg => ?_) (fun hg => ?_)
        · rw [if_pos hg] at hj
          exact ⟨(n, v), _, _, rfl, ⟨rfl, rfl, by dsimp only; omega, rfl, by dsimp only; omega, go v (by omega) hj⟩, by dsimp only; omega⟩
        · rw [if_neg (by omega)] at hj
          exact ⟨(n, bs), _, _, rfl, ⟨rfl, rfl, by dsimp only; omega, rfl, hb, go bs hb hj⟩, by dsimp only; omega⟩
    · rw [if_neg hz] at hj
      exact ⟨(n, bs), _, _, rfl, ⟨rfl, rfl, by dsimp only; omega, rfl, hb, go bs hb hj⟩, by dsimp only; omega⟩
  · have : k = 0 := by omega
    subst this
    simp only [gPickA] at hj
    subst hj
    rw [e34_1x0]
    unfold s34_1x0
    refine ⟨by omega, by omega, ?_⟩
    simp only [Int.toNat_natCast]
    refine ⟨_, hc.so.phase (by omega), ?_⟩
    dsimp only
    rw [hc.rep.phase bs (by omega)]
    have hp := hph bs (by omega)
    have : IntKind.wrap .i64 ((bs : Int) * σ.phase bs) = (bs : Int) * σ.phase bs := by
      rcases hp with hp | hp
      · rw [hp, wrap_i64 (by omega) (by omega)]
      · rw [hp, wrap_i64 (by omega) (by omega)]
    rw [this]; exact hK

def gBegin (σ : St) : St := { t := Tr.empty, w := emptyW, log := σ.log, act := fun _ => 0, phase := fun _ => -1, inc := 1, alive := fun _ => false, count := 0, conf := 0, rest := 0, since := 0 }
theorem begin_spec {B : Bk} {la : Option Addr} {σ : St} {K : Value → Mem → Prop} {m : Mem} (hd : B.Dist) (h : Sat m B la σ)
    (hK : ∀ m', m'.Ok → Kp (foot B la) m m' → Sat m' B la (gBegin σ) → K (.tuple #[]) m') : callOK Tryz.prog W0 27 [ptr B.s 0] K m := by
  refine callOK_ok fun ok => call27 ?_
  unfold s27
  obtain ⟨c, hc⟩ := h.s
  refine ⟨_, hc.so.t, ?_⟩
  rw [hc.t]
  refine treset_spec h.t ?_
  intro m1 ok1 kp1 ht1
  refine ⟨rfl, ?_⟩
  have n1 : ∀ x ∈ blkOf la, x ∉ [B.t] := fun x hx => by simpa using (h.d x hx).1
  have n2 : ∀ x ∈ blkOf la, x ∉ [B.w] := fun x hx => by simpa using (h.d x hx).2.1
  have hc1 := hc.keep kp1 (by simpa using fun h => hd.ts h.symm) n1
  have hw1 := h.w.keep kp1 (by simpa using fun h => hd.tw h.symm)
  refine ⟨_, hc1.so.w, ?_⟩
  rw [hc1.w]
  refine wreset_spec hw1 ?_
  intro m2 ok2 kp2 hw2
  refine ⟨rfl, ?_⟩
  have hc2 := hc1.keep kp2 (by simpa using fun h => hd.ws h.symm) n2
  have ht2 := ht1.keep kp2 (by simpa using hd.tw)
  have hl2 := (h.l.keep kp1 (by simpa using fun h => hd.tl h.symm)).keep kp2 (by simpa using fun h => hd.wl h.symm)
  have kk2 : Kp (foot B la) m m2 := (kp1.mono (by simp [foot])).trans (kp2.mono (by simp [foot]))
  have h2 : Sat m2 B la { σ with t := Tr.empty, w := emptyW } := ⟨ht2, hw2, hl2, ⟨c, hc2.so, hc2.p, hc2.t, hc2.w, hc2.l, hc2.la, hc2.own, ⟨hc2.rep.act, hc2.rep.phase, hc2.rep.inc, hc2.rep.alive, hc2.rep.count, hc2.rep.conf, hc2.rep.rest, hc2.rep.since⟩⟩, h.d⟩
  refine loop27_1 (γ := Nat × (Nat → Int) × (Nat → Int)) (fun g v m' => v = g.1 ∧ g.1 ≤ 13 ∧ m'.Ok ∧ Kp (foot B la) m m' ∧ Sat m' B la { σ with t := Tr.empty, w := emptyW, act := g.2.1, phase := g.2.2 } ∧ ∀ v, v < g.1 → g.2.1 v = 0 ∧ g.2.2 v = -1) (fun g _ => 13 - g.1) (0, σ.act, σ.phase)
    ⟨rfl, by dsimp only; omega, ok2, kk2, h2, by intro v hv; dsimp only at hv; omega⟩ ?_
  rintro ⟨k, act, ph⟩ v m3 ⟨rfl, hk, ok3, kp3, h3, hz⟩
  dsimp only at hk h3 hz ⊢
  obtain ⟨c3, hc3⟩ := h3.s
  unfold s27_1
  refine ifB_le (fun hle => ?_) (fun hle => ?_)
  · refine ⟨by omega, by omega, ?_⟩
    simp only [Int.toNat_natCast]
    refine hc3.so.st_act ok3 (by omega) ?_
    intro m4 ok4 kp4 b4
    refine ⟨by omega, by omega, ?_⟩
    simp only [Int.toNat_natCast]
    refine b4.st_phase ok4 (by omega) ?_
    intro m5 ok5 kp5 b5
    refine ⟨(k + 1, fupd act k 0, fupd ph k (-1)), _, rfl, ⟨wrapS k (by omega), by dsimp only; omega, ok5, kp3.trans ((kp4.trans kp5).mono (by simp [foot])), ?_, ?_⟩, by dsimp only; omega⟩
    · refine Sat.own hd h3 hc3 (kp4.trans kp5) b5 ⟨rfl, rfl, rfl, rfl, rfl⟩ ⟨?_, ?_, hc3.rep.inc, hc3.rep.alive, hc3.rep.count, hc3.rep.conf, hc3.rep.rest, hc3.rep.since⟩ rfl rfl rfl
      · intro v hv
        show fupd c3.act k 0 v = fupd act k 0 v
        by_cases he : v = k
        · subst he; rw [fupd_at, fupd_at]
        · rw [fupd_ne _ _ he, fupd_ne _ _ he]; exact hc3.rep.act v hv
      · intro v hv
        show fupd c3.phase k (-1) v = fupd ph k (-1) v
        by_cases he : v = k
        · subst he; rw [fupd_at, fupd_at]
        · rw [fupd_ne _ _ he, fupd_ne _ _ he]; exact hc3.rep.phase v hv
    · intro v hv
      dsimp only at hv
      show fupd act k 0 v = 0 ∧ fupd ph k (-1) v = -1
      by_cases he : v = k
      · subst he; rw [fupd_at, fupd_at]; exact ⟨rfl, rfl⟩
      · rw [fupd_ne _ _ he, fupd_ne _ _ he]; exact hz v (by omega)
  · rw [e27_1x0]
    have : k = 13 := by omega
    subst this
    unfold s27_1x0
    refine hc3.so.st_inc ok3 ?_
    intro m4 ok4 kp4 b4
    refine b4.st_alive ok4 ?_
    intro m5 ok5 kp5 b5
    refine b5.st_count ok5 ?_
    intro m6 ok6 kp6 b6
    refine b6.st_conflicts ok6 ?_
    intro m7 ok7 kp7 b7
    refine b7.st_restarts ok7 ?_
    intro m8 ok8 kp8 b8
    refine b8.st_since ok8 ?_
    intro m9 ok9 kp9 b9
    have kk := ((((kp4.trans kp5).trans kp6).trans kp7).trans kp8).trans kp9
    refine hK m9 ok9 (kp3.trans (kk.mono (by simp [foot]))) ?_
    refine Sat.own hd h3 hc3 kk b9 ⟨rfl, rfl, rfl, rfl, rfl⟩ ⟨?_, ?_, rfl, ⟨⟨by dsimp only; omega, by dsimp only; omega⟩, fun i hi => tb_zero i⟩, rfl, rfl, rfl, rfl⟩ rfl rfl rfl
    · intro v hv
      exact (hc3.rep.act v hv).trans (hz v hv).1
    · intro v hv
      exact (hc3.rep.phase v hv).trans (hz v hv).2

def gLoadA : List Int → List Int → Nat → Wt → Wt
  | _, [], _, w => w
  | cur, x :: xs, id, w => if x = 0 then gLoadA [] xs (id + 1) (fupd w id ⟨1, cur⟩) else gLoadA (cur ++ [x]) xs id w
def LoadOK : List Int → List Int → Nat → Prop
  | _, [], _ => True
  | cur, x :: xs, id => if x = 0 then NF cur ∧ id < 40 ∧ LoadOK [] xs (id + 1) else LoadOK (cur ++ [x]) xs id
theorem gRoomA_at {w : Wt} {id : Nat} (h : ∀ j, (w j).st = 0 ↔ id ≤ j) : ∀ (n k : Nat), k ≤ id → id < k + n → gRoomA w n k = id
  | 0, k, h1, h2 => by omega
  | n + 1, k, h1, h2 => by
    simp only [gRoomA]
    by_cases he : k = id
    · subst he; rw [if_pos ((h k).2 (by omega))]
    · rw [if_neg (fun h0 => by have := (h k).1 h0; omega)]
      exact gRoomA_at h n (k + 1) (by omega) (by omega)
theorem load_spec {B : Bk} {la : Option Addr} {σ : St} {flat : List Int} {a : Option Addr} {n cc : Nat} {K : Value → Mem → Prop} {m : Mem} (hd : B.Dist) (h : Sat m B la σ) (hw0 : σ.w = emptyW) (hf : FzI m a n flat) (hcc : n ≤ cc) (hlen : flat.length < 2 ^ 40) (hok : LoadOK [] flat 0)
    (hK : ∀ m', m'.Ok → Kp (foot B la) m m' → Sat m' B la { σ with w := gLoadA [] flat 0 emptyW } → K (.tuple #[]) m') : callOK Tryz.prog W0 28 [ptr B.s 0, .slice a n cc] K m := by
  refine callOK_ok fun ok => call28 ?_
  unfold s28
  have hn := hf.len
  obtain ⟨r, hr⟩ : ∃ r, gLoadA [] flat 0 emptyW = r := ⟨_, rfl⟩
  rw [hr] at hK
  refine loop28_1 (γ := Nat × Nat × Nat × Wt) (fun g lo i m' => i = g.1 ∧ lo = g.2.1 ∧ g.1 ≤ flat.length ∧ g.2.1 ≤ g.1 ∧ m'.Ok ∧ Kp (foot B la) m m' ∧ Sat m' B la { σ with w := g.2.2.2 } ∧ (∀ j, (g.2.2.2 j).st = 0 ↔ g.2.2.1 ≤ j) ∧ LoadOK ((flat.take g.1).drop g.2.1) (flat.drop g.1) g.2.2.1 ∧ gLoadA ((flat.take g.1).drop g.2.1) (flat.drop g.1) g.2.2.1 g.2.2.2 = r) (fun g _ _ => flat.length - g.1) (0, 0, 0, emptyW)
    ⟨rfl, rfl, by dsimp only; omega, by dsimp only; omega, ok, Kp.refl _ _, by rw [← hw0]; exact h, by intro j; simp [emptyW], by simpa using hok, by simpa using hr⟩ ?_
  rintro ⟨i, lo, id, w⟩ lo' i' m1 ⟨rfl, rfl, hi, hlo, ok1, kp1, h1, hst, hlk, hj⟩
  dsimp only at hi hlo h1 hst hlk hj ⊢
  obtain ⟨c1, hc1⟩ := h1.s
  have hf1 := hf.keep kp1
  unfold s28_1
  refine ifB_lt (fun hlt => ?_) (fun hlt => ?_)
  · have hil : i < flat.length := by omega
    rw [drop_cons hil 0] at hj hlk
    simp only [gLoadA] at hj
    simp only [LoadOK] at hlk
    refine hf1.sl.get (by omega) (by omega) fun _ _ _ => ?_
    simp only [Int.toNat_natCast]
    refine ifB_eq (fun he => ?_) (fun he => ?_)
    · rw [if_pos he] at hj hlk
      refine ⟨by omega, by omega, ?_⟩
      refine ⟨by omega, by omega, ?_⟩
      simp only [Int.toNat_natCast]
      have hsub := hf1.sl.sub (lo := lo) (hi := i) (c := cc) hlo (by omega) hcc
      refine copyFz_spec hsub (by simp; omega) ?_
      intro a2 m2 ok2 kp2 fz2 _
      refine ⟨_, _, _, rfl, ?_⟩
      have h2 := h1.keep kp2 (fun _ _ => by simp)
      have hc2 := hc1.keep kp2 (by simp) (fun _ _ => by simp)
      refine ⟨_, hc2.so.w, ?_⟩
      rw [hc2.w]
      obtain ⟨fw, fw1, fw2⟩ := h2.w.wr
      refine add_spec (id := id) h2.w fz2.sl (fun hne => fz_ne fz2 fw1 fw2 hne) hlk.1 ?_ (by omega) ((hst id).2 (by omega)) ?_
      · unfold gRoom
        rw [if_neg (by simp)]
        exact gRoomA_at hst 40 0 (by omega) (by omega)
      intro m3 ok3 kp3 hw3
      refine ⟨_, _, rfl, ?_⟩
      have nw : ∀ x, x = B.t ∨ x = B.l ∨ x = B.s ∨ x ∈ blkOf la → x ∉ [B.w] := by
        intro x hx
        simp only [List.mem_singleton]
        rcases hx with rfl | rfl | rfl | hx
        · exact hd.tw
        · exact fun h0 => hd.wl h0.symm
        · exact fun h0 => hd.ws h0.symm
        · exact (h2.d x hx).2.1
      refine ⟨(i + 1, i + 1, id + 1, fupd w id ⟨1, (flat.take i).drop lo⟩), _, _, rfl, ⟨wrapS i (by omega), wrapS i (by omega), by dsimp only; omega, by dsimp only; omega, ok3, (kp1.trans kp2.of_nil).trans (kp3.mono (by simp [foot])), ?_, ?_, ?_, ?_⟩, by dsimp only; omega⟩
      · have := hc2.keep kp3 (nw _ (by simp)) (fun x hx => nw x (by simp [hx]))
        exact ⟨h2.t.keep kp3 (nw _ (by simp)), hw3, h2.l.keep kp3 (nw _ (by simp)), ⟨c1, this.so, this.p, this.t, this.w, this.l, this.la, this.own, ⟨this.rep.act, this.rep.phase, this.rep.inc, this.rep.alive, this.rep.count, this.rep.conf, this.rep.rest, this.rep.since⟩⟩, h2.d⟩
      · intro j
        show (fupd w id ⟨1, (flat.take i).drop lo⟩ j).st = 0 ↔ id + 1 ≤ j
        by_cases he : j = id
        · subst he; rw [fupd_at]; simp
        · rw [fupd_ne _ _ he, hst j]; omega
      · dsimp only
        have : (flat.take (i + 1)).drop (i + 1) = [] := by simp
        rw [this]; exact hlk.2.2
      · dsimp only
        have : (flat.take (i + 1)).drop (i + 1) = [] := by simp
        rw [this]; exact hj
    · rw [if_neg he] at hj hlk
      have hcur : (flat.take (i + 1)).drop lo = (flat.take i).drop lo ++ [flat.getD i 0] := by
        rw [take_succ_getD hil 0, List.drop_append_of_le_length (by simp; omega)]
      refine ⟨(i + 1, lo, id, w), _, _, rfl, ⟨wrapS i (by omega), rfl, by dsimp only; omega, by dsimp only; omega, ok1, kp1, h1, hst, ?_, ?_⟩, by dsimp only; omega⟩
      · dsimp only; rw [hcur]; exact hlk
      · dsimp only; rw [hcur]; exact hj
  · have : i = flat.length := by omega
    subst this
    rw [List.drop_length] at hj
    simp only [gLoadA] at hj
    subst hj
    rw [e28_1x0]
    exact hK m1 ok1 kp1 h1

def gModel (t : Tr) (v : Nat) : Int := if t.value v = 1 then v else -v
def gModelA (t : Tr) : Nat → Nat → List Int
  | 0, _ => []
  | n + 1, v => gModel t v :: gModelA t n (v + 1)
theorem zero39 : zeroBlk Tryz.prog 39 = Blk.ofList [(.int .i64 0), (.int .i64 0), (.bool false), (.slice none 0 0), (.string (ByteArray.mk #[])), (.int .i64 0), (.int .i64 0)] := by kernel_rfl
theorem own_empty {m : Mem} {a : Option Addr} {n c : Nat} {l : List Int} (h : OwnI m a n c l) : OwnI m (slA a 0 c 1) 0 c [] := by
  obtain ⟨h0, css, ⟨h1, h2, h3⟩, _⟩ := h
  refine ⟨rfl, [], ⟨by simp, by omega, ?_⟩, trivial⟩
  rcases h3 with ⟨rfl, rfl⟩ | ⟨b, f, rfl, h4, h5, h6, h7⟩
  · left
    simp [slA]
  · right
    have : slA (some ⟨b, 0, none⟩) 0 c 1 = some ⟨b, 0, none⟩ := by unfold slA; split <;> rfl
    exact ⟨b, f, this, h4, h5, by simp, h7⟩
theorem slA_zero {a : Option Addr} {c : Nat} (h : plainA a) : slA a 0 c 1 = a := by
  unfold slA
  split
  · rfl
  · cases a with
    | none => rfl
    | some x => obtain ⟨b, o, e⟩ := x; simp [Addr.add]
theorem own_blk {m : Mem} {a : Option Addr} {n c : Nat} {l : List Int} (h : OwnI m a n c l) : slA a 0 c 1 = a := slA_zero h.sl.plain

theorem log_zero {B : Bk} {la : Option Addr} {σ : St} {m : Mem} {c : SoC} {K : Mem → Prop} (hd : B.Dist) (ok : m.Ok) (h : Sat m B la σ) (hc : SvAt m B la σ c)
    (hK : ∀ m', m'.Ok → Kp [B.s] m m' → Sat m' B la { σ with log := [] } → K m') : ckLe 0 c.log.2.2 fun n_9 => st m B.s 4 (.slice (slA c.log.1 0 c.log.2.2 1) (n_9 - 0) (c.log.2.2 - 0)) K := by
  refine ⟨by omega, by omega, ?_⟩
  have e1 := own_blk hc.own
  have own0 := own_empty hc.own
  rw [e1] at own0 ⊢
  refine hc.so.st_log (x := (c.log.1, 0, c.log.2.2)) ok ?_
  intro m1 ok1 kp1 b1
  refine hK m1 ok1 kp1 ⟨h.t.keep kp1 (by simpa using hd.ts), h.w.keep kp1 (by simpa using hd.ws), h.l.keep kp1 (by simpa using hd.ls), ⟨_, b1, hc.p, hc.t, hc.w, hc.l, hc.la, ?_, ⟨hc.rep.act, hc.rep.phase, hc.rep.inc, hc.rep.alive, hc.rep.count, hc.rep.conf, hc.rep.rest, hc.rep.since⟩⟩, h.d⟩
  exact own0.keep kp1 fun x hx => by rw [hc.la] at hx; simpa using (h.d x hx).2.2.2
theorem satisfied_spec {B : Bk} {la : Option Addr} {σ : St} {K : Value → Mem → Prop} {m : Mem} (hd : B.Dist) (h : Sat m B la σ)
    (hK : ∀ a m', m'.Ok → Kp (foot B la) m m' → InS [] m (blkOf a) → a ≠ none → OwnI m' a 12 12 (gModelA σ.t 12 1) → Sat m' B la { σ with log := [] } →
      K (.agg #[(.int .i64 0), (.int .i64 0), (.bool true), (.slice a 12 12), (.string (ByteArray.mk #[])), (.int .i64 σ.conf), (.int .i64 σ.rest)]) m') : callOK Tryz.prog W0 33 [ptr B.s 0] K m := by
  refine callOK_ok fun ok => call33 ?_
  have hlt := h.lt ok
  unfold s33
  rw [zero39]
  intro b1 hb1
  have hk1 := Kp.new (S := []) ok hb1 (Blk.ofList [(.int .i64 0), (.int .i64 0), (.bool false), (.slice none 0 0), (.string (ByteArray.mk #[])), (.int .i64 0), (.int .i64 0)])
  have bn1 : BlkN (m.new b1 (Blk.ofList [(.int .i64 0), (.int .i64 0), (.bool false), (.slice none 0 0), (.string (ByteArray.mk #[])), (.int .i64 0), (.int .i64 0)])) b1 7 := BlkN.new b1 (by simp)
  have ok1 := ok.new hb1 (Blk.ofList [(.int .i64 0), (.int .i64 0), (.bool false), (.slice none 0 0), (.string (ByteArray.mk #[])), (.int .i64 0), (.int .i64 0)])
  generalize m.new b1 (Blk.ofList [(.int .i64 0), (.int .i64 0), (.bool false), (.slice none 0 0), (.string (ByteArray.mk #[])), (.int .i64 0), (.int .i64 0)]) = m1 at hk1 bn1 ok1
  have lt1 := bn1.lt ok1
  have t1 := hk1.top
  refine ⟨by omega, by omega, by omega, by omega, ?_⟩
  intro b3 hb3
  have hk2 := Kp.new (S := []) ok1 hb3 { wr := true, cell := rowsOf [(.int .i64 0)] (Int.toNat 12) }
  have ok2 := ok1.new hb3 { wr := true, cell := rowsOf [(.int .i64 0)] (Int.toNat 12) }
  have hf0 : ∃ f, (m1.new b3 { wr := true, cell := rowsOf [(.int .i64 0)] (Int.toNat 12) }).blk b3 = some f ∧ f.wr = true ∧ (∀ i, i < 12 → (f.cell i).isSome = true) ∧ ∀ i (x : Int), ([] : List Int)[i]? = some x → f.cell i = some (.int .i64 x) := by
    refine ⟨_, Mem.new_at _ _ _, rfl, ?_, by simp⟩
    intro i hi
    simp [rowsOf, Nat.mod_one, hi]
  generalize m1.new b3 { wr := true, cell := rowsOf [(.int .i64 0)] (Int.toNat 12) } = m2 at hk2 hf0 ok2
  have lt3 : b3 < m2.top := by obtain ⟨f, hf, _⟩ := hf0; exact ok2 _ _ hf
  have kp2 := hk1.trans hk2
  obtain ⟨r, hr⟩ : ∃ r, gModelA σ.t 12 1 = r := ⟨_, rfl⟩
  rw [hr] at hK
  refine loop33_1 (γ := Nat × List Int) (fun g v m' => v = ((13 - g.1 : Nat) : Int) ∧ g.1 ≤ 12 ∧ g.2.length + g.1 = 12 ∧ m'.Ok ∧ Kp [] m m' ∧ BlkN m' b1 7 ∧ (∃ f, m'.blk b3 = some f ∧ f.wr = true ∧ (∀ i, i < 12 → (f.cell i).isSome = true) ∧ ∀ i x, g.2[i]? = some x → f.cell i = some (.int .i64 x)) ∧ g.2 ++ gModelA σ.t g.1 (13 - g.1) = r) (fun g _ => g.1) (12, [])
    ⟨rfl, by dsimp only; omega, rfl, ok2, kp2, bn1.keep hk2 (by simp), hf0, hr⟩ ?_
  rintro ⟨k, out⟩ v m3 ⟨rfl, hk, hol, ok3, kp3, bn3, ⟨f, f1, f2, f3, f4⟩, hj⟩
  dsimp only at hk hol f4 hj ⊢
  have h3 := h.keep kp3 (fun _ _ => by simp)
  obtain ⟨c3, hc3⟩ := h3.s
  unfold s33_1
  refine ifB_le (fun hle => ?_) (fun hle => ?_)
  · obtain ⟨n, rfl⟩ : ∃ n, k = n + 1 := ⟨k - 1, by omega⟩
    obtain ⟨v, hv⟩ : ∃ v, 13 - (n + 1) = v := ⟨_, rfl⟩
    have hv2 : 13 - n = v + 1 := by omega
    rw [hv] at hj ⊢
    simp only [gModelA] at hj
    have hwv : IntKind.wrap .i64 ((v : Int) + 1) = ((13 - n : Nat) : Int) := by rw [wrap_i64 (by omega) (by omega)]; omega
    have hwm : IntKind.wrap .i64 ((v : Int) - 1) = ((out.length : Nat) : Int) := by rw [wrap_i64 (by omega) (by omega)]; omega
    have hwn : IntKind.wrap .i64 (0 - (v : Int)) = -(v : Int) := by rw [wrap_i64 (by omega) (by omega)]; omega
    rw [hwv, hwm, hwn]
    refine ⟨_, hc3.so.t, ?_⟩
    rw [hc3.t]
    refine value_spec h3.t ⟨_, rfl, ?_⟩
    have put : ∀ (m4 : Mem) (g : Blk) (x : Int), m4.Ok → Kp [] m m4 → BlkN m4 b1 7 → m4.blk b3 = some g → g.wr = true → (∀ i, i < 12 → (g.cell i).isSome = true) → (∀ i y, i < out.length → out[i]? = some y → g.cell i = some (.int .i64 y)) → ∀ K2 : Mem → Prop,
        (∀ m5, m5.Ok → Kp [] m m5 → BlkN m5 b1 7 → m5.blk b3 = some (g.upd out.length (.int .i64 x)) → K2 m5) → st m4 b3 (0 + out.length) (.int .i64 x) K2 := by
      intro m4 g x ok4 kp4 bn4 g1 g2 g3 g4 K2 hK2
      refine ⟨g, g1, g2, by rw [Nat.zero_add]; exact g3 _ (by omega), ?_⟩
      rw [Nat.zero_add]
      have hk3 : Kp [b3] m4 _ := Kp.setB (S := [b3]) g1 g2 (g.upd out.length (.int .i64 x)) (by simp)
      exact hK2 _ (ok4.setB g1) (kp4.step hk3 ok (fun b' hb' => .inr (by simp at hb'; omega))) (bn4.keep hk3 (by simp; omega)) (Mem.setB_at _ _ _)
    have upd3 : ∀ (g : Blk) (x : Int), (∀ i, i < 12 → (g.cell i).isSome = true) → ∀ i, i < 12 → ((g.upd out.length (.int .i64 x)).cell i).isSome = true := by
      intro g x g3 i hi
      simp only [Blk.upd]
      split
      · rfl
      · exact g3 i hi
    have upd4 : ∀ (g : Blk) (x : Int), (∀ i y, i < out.length → out[i]? = some y → g.cell i = some (.int .i64 y)) → ∀ i y, i < out.length → out[i]? = some y → (g.upd out.length (.int .i64 x)).cell i = some (.int .i64 y) := by
      intro g x g4 i y hi hy
      simp only [Blk.upd]
      rw [if_neg (by omega)]; exact g4 i y hi hy
    have fin4 : ∀ (g : Blk) (x : Int), (∀ i y, i < out.length → out[i]? = some y → g.cell i = some (.int .i64 y)) → ∀ i y, (out ++ [x])[i]? = some y → (g.upd out.length (.int .i64 x)).cell i = some (.int .i64 y) := by
      intro g x g4 i y hi
      rw [List.getElem?_append] at hi
      simp only [Blk.upd]
      split at hi
      · rw [if_neg (by omega)]; exact g4 i y (by assumption) hi
      · have hi0 : i = out.length := by
          rcases Nat.lt_or_ge (i - out.length) 1 with h | h
          · omega
          · rw [List.getElem?_eq_none (by simpa using h)] at hi; cases hi
        subst hi0
        simp at hi
        subst hi
        rw [if_pos rfl]
    have f4' : ∀ i y, i < out.length → out[i]? = some y → f.cell i = some (.int .i64 y) := fun i y _ h => f4 i y h
    refine ⟨by omega, by omega, ?_⟩
    simp only [Int.toNat_natCast]
    refine put m3 f _ ok3 kp3 bn3 f1 f2 f3 f4' _ ?_
    intro m4 ok4 kp4 bn4 g1
    have hgm : gModel σ.t v = if σ.t.value v = 1 then (v : Int) else -(v : Int) := rfl
    refine ifB_eq (fun he => ?_) (fun he => ?_)
    · rw [if_pos he] at hgm
      rw [hgm] at hj
      refine ⟨by omega, by omega, ?_⟩
      simp only [Int.toNat_natCast]
      refine put m4 _ _ ok4 kp4 bn4 g1 f2 (upd3 f _ f3) (upd4 f _ f4') _ ?_
      intro m5 ok5 kp5 bn5 g15
      refine ⟨(n, out ++ [(v : Int)]), _, rfl, ⟨rfl, by dsimp only; omega, by simp; omega, ok5, kp5, bn5, ⟨_, g15, f2, upd3 _ _ (upd3 f _ f3), fin4 _ _ (upd4 f _ f4')⟩, ?_⟩, by dsimp only; omega⟩
      dsimp only
      rw [hv2]; simpa using hj
    · rw [if_neg he] at hgm
      rw [hgm] at hj
      refine ⟨(n, out ++ [-(v : Int)]), _, rfl, ⟨rfl, by dsimp only; omega, by simp; omega, ok4, kp4, bn4, ⟨_, g1, f2, upd3 f _ f3, fin4 f _ f4'⟩, ?_⟩, by dsimp only; omega⟩
      dsimp only
      rw [hv2]; simpa using hj
  · have : k = 0 := by omega
    subst this
    simp only [gModelA, List.append_nil] at hj
    subst hj
    rw [e33_1x0]
    unfold s33_1x0
    have own3 : OwnI m3 (some ⟨b3, 0, none⟩) 12 12 out := OwnI_of_fill f1 f2 (by omega) f4
    refine ⟨_, _, _, hc3.so.log, ?_⟩
    refine log_zero hd ok3 h3 hc3 ?_
    intro m4 ok4 kp4 h4
    obtain ⟨c4, hc4⟩ := h4.s
    have top3 := kp3.top
    have lts := hlt B.s (by simp [foot])
    refine ⟨_, hc4.so.conflicts, _, hc4.so.restarts, ?_⟩
    rw [hc4.rep.conf, hc4.rep.rest]
    have k4 : Kp [B.s] m m4 := kp3.of_nil.trans kp4
    refine stl7 ok4 (bn3.keep kp4 (by simp; omega)) ?_
    intro m5 ok5 kp5
    refine hK (some ⟨b3, 0, none⟩) m5 ok5 ?_ ?_ (by simp) ?_ ?_
    · exact (k4.mono (by simp [foot])).step kp5 ok (fun b' hb' => .inr (by simp at hb'; omega))
    · intro x hx; simp [blkOf] at hx; subst hx; exact .inr (by omega)
    · refine (own3.keep kp4 ?_).keep kp5 ?_
      · intro x hx; simp [blkOf] at hx; simp; omega
      · intro x hx; simp [blkOf] at hx; simp; omega
    · refine h4.keep kp5 fun x hx => ?_
      have := hlt x hx
      simp; omega
end Go.Proofs.Qxb6500974aGreat
