import Derived.Test.Qxb6500974aGreatR10
set_option linter.all false
set_option linter.unusedSimpArgs false
set_option linter.unusedVariables false
namespace Go.Proofs.Qxb6500974aGreat
open Go.Eng
variable {W0 : World}

structure St where
  t : Tr
  w : Wt
  log : List Int
  act : Nat → Int
  phase : Nat → Int
  inc : Nat
  alive : Nat → Bool
  count : Nat
  conf : Nat
  rest : Nat
  since : Nat
structure SvRep (c : SoC) (σ : St) : Prop where
  act : ∀ v, v < 13 → c.act v = σ.act v
  phase : ∀ v, v < 13 → c.phase v = σ.phase v
  inc : c.inc = σ.inc
  alive : U16 c.alive ∧ ∀ k, k < 16 → tb c.alive k = σ.alive k
  count : c.count = σ.count
  conf : c.conflicts = σ.conf
  rest : c.restarts = σ.rest
  since : c.since = σ.since

structure Bk where
  p : Nat
  t : Nat
  w : Nat
  l : Nat
  s : Nat
structure Bk.Dist (B : Bk) : Prop where
  pt : B.p ≠ B.t
  pw : B.p ≠ B.w
  pl : B.p ≠ B.l
  ps : B.p ≠ B.s
  tw : B.t ≠ B.w
  tl : B.t ≠ B.l
  ts : B.t ≠ B.s
  wl : B.w ≠ B.l
  ws : B.w ≠ B.s
  ls : B.l ≠ B.s
def foot (B : Bk) (la : Option Addr) : List Nat := B.t :: B.w :: B.l :: B.s :: blkOf la
structure SvAt (m : Mem) (B : Bk) (la : Option Addr) (σ : St) (c : SoC) : Prop where
  so : SoB m B.s c
  p : c.p = B.p
  t : c.t = B.t
  w : c.w = B.w
  l : c.l = B.l
  la : c.log.1 = la
  own : OwnI m c.log.1 c.log.2.1 c.log.2.2 σ.log
  rep : SvRep c σ
structure Sat (m : Mem) (B : Bk) (la : Option Addr) (σ : St) : Prop where
  t : TrAt m B.t σ.t
  w : WAt m B.w B.t σ.w
  l : LnAt m B.l B.t B.w Ln.clean
  s : ∃ c, SvAt m B la σ c
  d : ∀ x ∈ blkOf la, x ≠ B.t ∧ x ≠ B.w ∧ x ≠ B.l ∧ x ≠ B.s
theorem SvAt.keep {S : List Nat} {m m' : Mem} {B : Bk} {la : Option Addr} {σ : St} {c : SoC} (h : SvAt m B la σ c) (hk : Kp S m m') (hb : B.s ∉ S) (hl : ∀ x ∈ blkOf la, x ∉ S) : SvAt m' B la σ c :=
  ⟨h.so.keep hk hb, h.p, h.t, h.w, h.l, h.la, h.own.keep hk (by rw [h.la]; exact hl), h.rep⟩
theorem Sat.keep {S : List Nat} {m m' : Mem} {B : Bk} {la : Option Addr} {σ : St} (h : Sat m B la σ) (hk : Kp S m m') (hs : ∀ x ∈ foot B la, x ∉ S) : Sat m' B la σ := by
  obtain ⟨h1, h2, h3, ⟨c, h4⟩, h5⟩ := h
  refine ⟨h1.keep hk (hs _ (by simp [foot])), h2.keep hk (hs _ (by simp [foot])), h3.keep hk (hs _ (by simp [foot])), ⟨c, h4.keep hk (hs _ (by simp [foot])) fun x hx => hs x (by simp [foot, hx])⟩, h5⟩
theorem Sat.lt {m : Mem} {B : Bk} {la : Option Addr} {σ : St} (ok : m.Ok) (h : Sat m B la σ) : ∀ x ∈ foot B la, x < m.top := by
  obtain ⟨h1, h2, h3, ⟨c, h4⟩, h5⟩ := h
  intro x hx
  simp only [foot, List.mem_cons] at hx
  rcases hx with rfl | rfl | rfl | rfl | hx
  · exact h1.lt ok
  · exact h2.lt ok
  · exact h3.lt ok
  · exact h4.so.lt ok
  · obtain ⟨_, css, ho, _⟩ := h4.own
    exact ho.lt ok x (by rw [h4.la]; exact hx)

theorem Sat.own {m m' : Mem} {B : Bk} {la : Option Addr} {σ σ' : St} {c c' : SoC} (hd : B.Dist) (h : Sat m B la σ) (hc : SvAt m B la σ c) (hk : Kp [B.s] m m') (hb : SoB m' B.s c') (e : c'.p = c.p ∧ c'.t = c.t ∧ c'.w = c.w ∧ c'.l = c.l ∧ c'.log = c.log) (hr : SvRep c' σ')
    (et : σ'.t = σ.t) (ew : σ'.w = σ.w) (el : σ'.log = σ.log) : Sat m' B la σ' := by
  obtain ⟨h1, h2, h3, h4, h5⟩ := h
  obtain ⟨e1, e2, e3, e4, e5⟩ := e
  refine ⟨by rw [et]; exact h1.keep hk (by simpa using hd.ts), by rw [ew]; exact h2.keep hk (by simpa using hd.ws), h3.keep hk (by simpa using hd.ls), ⟨c', hb, by rw [e1, hc.p], by rw [e2, hc.t], by rw [e3, hc.w], by rw [e4, hc.l], by rw [e5, hc.la], ?_, hr⟩, h5⟩
  rw [e5, el]
  refine hc.own.keep hk fun x hx => ?_
  rw [hc.la] at hx
  simpa using (h5 x hx).2.2.2

theorem log_app {b : Nat} {c : SoC} {L q : List Int} {a : Option Addr} {n nn : Nat} {m : Mem} {K : Mem → Prop} (ok : m.Ok) (hs : SoB m b c) (ho : OwnI m c.log.1 c.log.2.1 c.log.2.2 L) (hb : b ∉ blkOf c.log.1) (hq : FzI m a n q) (hnn : nn = n * 1) (hsz : L.length + q.length ≤ 2 ^ 40)
    (hK : ∀ x m', m'.Ok → Kp (b :: blkOf c.log.1) m m' → SoB m' b { c with log := x } → OwnI m' x.1 x.2.1 x.2.2 (L ++ q) → InS (blkOf c.log.1) m (blkOf x.1) → b ∉ blkOf x.1 → K m') :
    rdRow m a nn fun r => appendC m 1 8 [(.int .i64 0)] c.log.1 c.log.2.1 c.log.2.2 n r fun a' c' m1 => st m1 b 4 (.slice a' (c.log.2.1 + n) c') K := by
  have e1 := ho.len
  have e2 := hq.len
  have hlt := hs.lt ok
  refine Elt.appL (E := EI) ok ho hq.sl hnn rfl rfl (by omega) (by omega) ?_
  intro a1 c1 m1 ok1 kp1 own1 in1
  have hs1 := hs.keep kp1 hb
  have nb1 : b ∉ blkOf a1 := fun h0 => by
    rcases in1 _ h0 with h | h
    · exact hb h
    · omega
  refine hs1.st_log (x := (a1, c.log.2.1 + n, c1)) ok1 ?_
  intro m2 ok2 kp2 b2
  refine hK (a1, c.log.2.1 + n, c1) m2 ok2 ((kp1.mono (by simp; exact fun _ h => .inr h)).trans (kp2.mono (by simp))) b2 (own1.keep kp2 (by intro x hx; simp; intro h0; subst h0; exact nb1 hx)) in1 nb1
theorem log_one {b : Nat} {c : SoC} {L : List Int} {y : Int} {m : Mem} {K : Mem → Prop} (ok : m.Ok) (hs : SoB m b c) (ho : OwnI m c.log.1 c.log.2.1 c.log.2.2 L) (hb : b ∉ blkOf c.log.1) (hsz : L.length ≤ 2 ^ 40)
    (hK : ∀ x m', m'.Ok → Kp (b :: blkOf c.log.1) m m' → SoB m' b { c with log := x } → OwnI m' x.1 x.2.1 x.2.2 (L ++ [y]) → InS (blkOf c.log.1) m (blkOf x.1) → b ∉ blkOf x.1 → K m') :
    allocB m (Blk.ofList [(.int .i64 y)]) fun b_2 m_3 => rdRow m_3 (some ⟨b_2, 0, none⟩) (1 * 1) fun r => appendC m_3 1 8 [(.int .i64 0)] c.log.1 c.log.2.1 c.log.2.2 1 r fun a' c' m1 => st m1 b 4 (.slice a' (c.log.2.1 + 1) c') K := by
  have e1 := ho.len
  have hlt := hs.lt ok
  refine Elt.app1 (E := EI) (x := y) ok ho rfl rfl rfl (by omega) (by omega) ?_
  intro a1 c1 m1 ok1 kp1 own1 in1
  have hs1 := hs.keep kp1 hb
  have nb1 : b ∉ blkOf a1 := fun h0 => by
    rcases in1 _ h0 with h | h
    · exact hb h
    · omega
  refine hs1.st_log (x := (a1, c.log.2.1 + 1, c1)) ok1 ?_
  intro m2 ok2 kp2 b2
  refine hK (a1, c.log.2.1 + 1, c1) m2 ok2 ((kp1.mono (by simp; exact fun _ h => .inr h)).trans (kp2.mono (by simp))) b2 (own1.keep kp2 (by intro x hx; simp; intro h0; subst h0; exact nb1 hx)) in1 nb1
def gNote (del : Bool) (c : List Int) (log : List Int) : List Int := (if del = true then log ++ [13] else log) ++ c ++ [0]
theorem note_spec {B : Bk} {la : Option Addr} {σ : St} {del : Bool} {q : List Int} {a : Option Addr} {n cc : Nat} {K : Value → Mem → Prop} {m : Mem} (hd : B.Dist) (h : Sat m B la σ) (hq : FzI m a n q) (hlen : σ.log.length ≤ 2 ^ 30) (hql : q.length ≤ 100)
    (hK : ∀ la' m', m'.Ok → Kp (foot B la) m m' → InS (blkOf la) m (blkOf la') → Sat m' B la' { σ with log := gNote del q σ.log } → K (.tuple #[]) m') : callOK Tryz.prog W0 59 [ptr B.s 0, .bool del, .slice a n cc] K m := by
  refine callOK_ok fun ok => call59 ?_
  have h0 := h
  have hlt := h.lt ok
  obtain ⟨h1, h2, h3, ⟨c, h4⟩, h5⟩ := h
  have nb : B.s ∉ blkOf c.log.1 := by rw [h4.la]; exact fun hx => (h5 _ hx).2.2.2 rfl
  have fin : ∀ (x : Option Addr × Nat × Nat) (m' : Mem), m'.Ok → Kp (B.s :: blkOf c.log.1) m m' → SoB m' B.s { c with log := x } → OwnI m' x.1 x.2.1 x.2.2 (gNote del q σ.log) → InS (blkOf c.log.1) m (blkOf x.1) → K (.tuple #[]) m' := by
    intro x m' ok' kp' so' own' in'
    have nw : ∀ y, y ∈ [B.t, B.w, B.l] → y ∉ B.s :: blkOf c.log.1 := by
      intro y hy
      rw [h4.la]
      simp only [List.mem_cons, List.not_mem_nil, or_false] at hy ⊢
      rintro (rfl | hx)
      · rcases hy with hy | hy | hy
        · exact hd.ts hy.symm
        · exact hd.ws hy.symm
        · exact hd.ls hy.symm
      · have := h5 _ hx
        rcases hy with rfl | rfl | rfl
        · exact this.1 rfl
        · exact this.2.1 rfl
        · exact this.2.2.1 rfl
    rw [h4.la] at in'
    refine hK x.1 m' ok' (kp'.mono ?_) in' ⟨h1.keep kp' (nw _ (by simp)), h2.keep kp' (nw _ (by simp)), h3.keep kp' (nw _ (by simp)), ⟨_, so', h4.p, h4.t, h4.w, h4.l, rfl, own', ⟨h4.rep.act, h4.rep.phase, h4.rep.inc, h4.rep.alive, h4.rep.count, h4.rep.conf, h4.rep.rest, h4.rep.since⟩⟩, ?_⟩
    · intro y hy
      rw [h4.la] at hy
      simp only [foot, List.mem_cons] at hy ⊢
      rcases hy with rfl | hy
      · simp
      · simp [hy]
    · intro y hy
      rcases in' y hy with h | h
      · exact h5 y h
      · have l1 := hlt B.t (by simp [foot])
        have l2 := hlt B.w (by simp [foot])
        have l3 := hlt B.l (by simp [foot])
        have l4 := hlt B.s (by simp [foot])
        omega
  unfold s59
  unfold gNote at fin
  cases del with
  | true =>
    simp only [if_true] at fin
    refine ifB_of (fun _ => ?_) (fun h0 => by cases h0)
    refine ⟨_, _, _, h4.so.log, ?_⟩
    refine log_one ok h4.so h4.own nb (by omega) ?_
    intro x1 m1 ok1 kp1 so1 own1 in1 nb1
    refine ⟨_, _, _, so1.log, ?_⟩
    refine log_app (c := { c with log := x1 }) ok1 so1 own1 nb1 (hq.keep kp1) rfl (by simp; omega) ?_
    intro x2 m2 ok2 kp2 so2 own2 in2 nb2
    refine ⟨_, _, _, so2.log, ?_⟩
    refine log_one (c := { c with log := x2 }) ok2 so2 own2 nb2 (by simp; omega) ?_
    intro x3 m3 ok3 kp3 so3 own3 in3 nb3
    have i2 := in1.trans in2 kp1.top
    have sub : ∀ {x : Option Addr}, InS (blkOf c.log.1) m (blkOf x) → InS (B.s :: blkOf c.log.1) m (B.s :: blkOf x) := by
      intro x hx y hy
      simp only [List.mem_cons] at hy ⊢
      rcases hy with rfl | hy
      · exact .inl (.inl rfl)
      · exact (hx y hy).orMap .inr id
    have kk2 := kp1.step kp2 ok (sub in1)
    have kk3 := kk2.step kp3 ok (sub i2)
    exact fin x3 m3 ok3 kk3 so3 own3 (i2.trans in3 kk2.top)
  | false =>
    simp only [Bool.false_eq_true, if_false] at fin
    refine ifB_of (fun h0 => by cases h0) (fun _ => ?_)
    refine ⟨_, _, _, h4.so.log, ?_⟩
    refine log_app ok h4.so h4.own nb hq rfl (by omega) ?_
    intro x2 m2 ok2 kp2 so2 own2 in2 nb2
    refine ⟨_, _, _, so2.log, ?_⟩
    refine log_one (c := { c with log := x2 }) ok2 so2 own2 nb2 (by simp; omega) ?_
    intro x3 m3 ok3 kp3 so3 own3 in3 nb3
    have sub : ∀ {x : Option Addr}, InS (blkOf c.log.1) m (blkOf x) → InS (B.s :: blkOf c.log.1) m (B.s :: blkOf x) := by
      intro x hx y hy
      simp only [List.mem_cons] at hy ⊢
      rcases hy with rfl | hy
      · exact .inl (.inl rfl)
      · exact (hx y hy).orMap .inr id
    have kk3 := kp2.step kp3 ok (sub in2)
    exact fin x3 m3 ok3 kk3 so3 own3 (in2.trans in3 kp2.top)

def gJumpA (t : Tr) (level : Int) : Nat → (Nat → Int) → (Nat → Int)
  | 0, ph => ph
  | n + 1, ph => if t.levOf (goVar (t.at n)) ≤ level then ph else gJumpA t level n (fupd ph (t.at n).natAbs (if t.at n > 0 then 1 else -1))
def gJump (σ : St) (level : Nat) : St := { σ with phase := gJumpA σ.t level σ.t.es.length σ.phase, t := σ.t.back level }
theorem jump_spec {B : Bk} {la : Option Addr} {σ : St} {level : Nat} {K : Value → Mem → Prop} {m : Mem} (hd : B.Dist) (h : Sat m B la σ) (hl : level ≤ σ.t.dep)
    (hK : ∀ m', m'.Ok → Kp (foot B la) m m' → Sat m' B la (gJump σ level) → K (.tuple #[]) m') : callOK Tryz.prog W0 60 [ptr B.s 0, .int .i64 level] K m := by
  refine callOK_ok fun ok => call60 ?_
  have hg := h.t.good
  have hl12 := hg.len
  unfold s60
  have hc0 := h.s
  obtain ⟨c, hc⟩ := hc0
  refine ⟨_, hc.so.t, ?_⟩
  rw [hc.t]
  refine len_spec h.t ⟨_, rfl, ?_⟩
  obtain ⟨r, hr⟩ : ∃ r, gJumpA σ.t level σ.t.es.length σ.phase = r := ⟨_, rfl⟩
  unfold gJump at hK
  rw [hr] at hK
  have fin : ∀ (m1 : Mem) (i : Int), m1.Ok → Kp [B.s] m m1 → Sat m1 B la { σ with phase := r } → s60_1x0 (callOK Tryz.prog W0) B.s (level : Int) i K m1 := by
    intro m1 i ok1 kp1 h1
    unfold s60_1x0
    obtain ⟨c1, hc1⟩ := h1.s
    refine ⟨_, hc1.so.t, ?_⟩
    rw [hc1.t]
    refine backjump_spec h1.t hl ?_
    intro m2 ok2 kp2 ht2
    refine ⟨_, rfl, ?_⟩
    have n2 : ∀ x ∈ blkOf la, x ∉ [B.t] := fun x hx => by simpa using (h1.d x hx).1
    refine hK m2 ok2 ((kp1.mono (by simp [foot])).trans (kp2.mono (by simp [foot]))) ⟨ht2, h1.w.keep kp2 (by simpa using fun h => hd.tw h.symm), h1.l.keep kp2 (by simpa using fun h => hd.tl h.symm), ⟨c1, ?_⟩, h1.d⟩
    have := hc1.keep kp2 (by simpa using fun h => hd.ts h.symm) n2
    exact ⟨this.so, this.p, this.t, this.w, this.l, this.la, this.own, ⟨this.rep.act, this.rep.phase, this.rep.inc, this.rep.alive, this.rep.count, this.rep.conf, this.rep.rest, this.rep.since⟩⟩
  refine loop60_1 (γ := Nat × (Nat → Int)) (fun g i m' => i = (g.1 : Int) - 1 ∧ g.1 ≤ σ.t.es.length ∧ m'.Ok ∧ Kp [B.s] m m' ∧ Sat m' B la { σ with phase := g.2 } ∧ gJumpA σ.t level g.1 g.2 = r) (fun g _ => g.1) (σ.t.es.length, σ.phase)
    ⟨?_, by dsimp only; omega, ok, Kp.refl _ _, h, hr⟩ ?_
  · dsimp only; rw [wrap_i64 (by omega) (by omega)]
  rintro ⟨k, ph⟩ i m1 ⟨rfl, hk, ok1, kp1, h1, hj⟩
  dsimp only at hk h1 hj ⊢
  obtain ⟨c1, hc1⟩ := h1.s
  unfold s60_1
  refine ifB_ge (fun hge => ?_) (fun hge => ?_)
  · obtain ⟨n, rfl⟩ : ∃ n, k = n + 1 := ⟨k - 1, by omega⟩
    simp only [gJumpA] at hj
    have hn : n < σ.t.es.length := by omega
    have gp := at_good hg hn
    have ha := good_abs gp
    have hi : ((n + 1 : Nat) : Int) - 1 = (n : Int) := by omega
    rw [hi]
    have hwn : IntKind.wrap .i64 ((n : Int) - 1) = (n : Int) - 1 := wrap_i64 (by omega) (by omega)
    rw [hwn]
    refine ⟨_, hc1.so.t, ?_⟩
    rw [hc1.t]
    refine at_spec h1.t ⟨_, rfl, ?_⟩
    refine ⟨_, hc1.so.t, ?_⟩
    rw [hc1.t]
    refine levelOf_spec h1.t ⟨_, rfl, ?_⟩
    dsimp only
    generalize σ.t.at n = p at hj gp ha ⊢
    refine ifB_le (fun hle => ?_) (fun hle => ?_)
    · rw [if_pos hle] at hj
      rw [e60_1x0]
      subst hj
      exact fin m1 _ ok1 kp1 h1
    · rw [if_neg (by omega)] at hj
      have hj1 : 0 ≤ goVar p ∧ goVar p < 13 := by rw [ha.2.2.2.2]; omega
      have hjn : (goVar p).toNat = p.natAbs := by rw [ha.2.2.2.2]; omega
      refine ⟨hj1.1, hj1.2, ?_⟩
      rw [hjn]
      refine hc1.so.st_phase ok1 (by omega) ?_
      intro m2 ok2 kp2 b2
      have rep : ∀ x : Int, ∀ v, v < 13 → fupd c1.phase p.natAbs x v = fupd ph p.natAbs x v := by
        intro x v hv
        unfold fupd
        split
        · rfl
        · exact hc1.rep.phase v hv
      refine ifB_gt (fun hp => ?_) (fun hp => ?_)
      · rw [if_pos hp] at hj
        refine ⟨hj1.1, hj1.2, ?_⟩
        rw [hjn]
        refine b2.st_phase ok2 (by omega) ?_
        intro m3 ok3 kp3 b3
        refine ⟨(n, _), _, rfl, ⟨rfl, by dsimp only; omega, ok3, (kp1.trans kp2).trans kp3, ?_, hj⟩, by dsimp only; omega⟩
        refine Sat.own hd h1 hc1 (kp2.trans kp3) b3 ⟨rfl, rfl, rfl, rfl, rfl⟩ ⟨hc1.rep.act, ?_, hc1.rep.inc, hc1.rep.alive, hc1.rep.count, hc1.rep.conf, hc1.rep.rest, hc1.rep.since⟩ rfl rfl rfl
        intro v hv
        refine Eq.trans ?_ (rep 1 v hv)
        show fupd (fupd c1.phase p.natAbs (-1)) p.natAbs 1 v = fupd c1.phase p.natAbs 1 v
        by_cases he : v = p.natAbs
        · subst he; rw [fupd_at, fupd_at]
        · rw [fupd_ne _ _ he, fupd_ne _ _ he, fupd_ne _ _ he]
      · rw [if_neg (by omega)] at hj
        refine ⟨(n, _), _, rfl, ⟨rfl, by dsimp only; omega, ok2, kp1.trans kp2, ?_, hj⟩, by dsimp only; omega⟩
        refine Sat.own hd h1 hc1 kp2 b2 ⟨rfl, rfl, rfl, rfl, rfl⟩ ⟨hc1.rep.act, ?_, hc1.rep.inc, hc1.rep.alive, hc1.rep.count, hc1.rep.conf, hc1.rep.rest, hc1.rep.since⟩ rfl rfl rfl
        exact fun v hv => rep (-1) v hv
  · have : k = 0 := by omega
    subst this
    simp only [gJumpA] at hj
    rw [e60_1x0]
    subst hj
    exact fin m1 _ ok1 kp1 h1

def gBumpA (inc : Nat) : List Int → (Nat → Int) → (Nat → Int)
  | [], act => act
  | l :: ls, act => gBumpA inc ls (fupd act l.natAbs (act l.natAbs + inc))
def gBump (σ : St) (c : List Int) : St := { σ with act := gBumpA σ.inc c σ.act, inc := σ.inc + 1 }
theorem bump_spec {B : Bk} {la : Option Addr} {σ : St} {q : List Int} {a : Option Addr} {n cc : Nat} {K : Value → Mem → Prop} {m : Mem} (hd : B.Dist) (h : Sat m B la σ) (hq : FzI m a n q) (hg : ∀ x ∈ q, goGoodLit x = true) (hql : q.length ≤ 12)
    (hact : ∀ v, v < 13 → 0 ≤ σ.act v ∧ σ.act v ≤ 2 ^ 60) (hinc : σ.inc ≤ 2 ^ 40)
    (hK : ∀ m', m'.Ok → Kp (foot B la) m m' → Sat m' B la (gBump σ q) → K (.tuple #[]) m') : callOK Tryz.prog W0 62 [ptr B.s 0, .slice a n cc] K m := by
  refine callOK_ok fun ok => call62 ?_
  unfold s62
  have hn := hq.len
  obtain ⟨r, hr⟩ : ∃ r, gBumpA σ.inc q σ.act = r := ⟨_, rfl⟩
  unfold gBump at hK
  rw [hr] at hK
  refine loop62_1 (γ := Nat × (Nat → Int)) (fun g i m' => i = g.1 ∧ g.1 ≤ q.length ∧ m'.Ok ∧ Kp [B.s] m m' ∧ Sat m' B la { σ with act := g.2 } ∧ (∀ v, v < 13 → 0 ≤ g.2 v ∧ g.2 v ≤ 2 ^ 60 + g.1 * 2 ^ 40) ∧ gBumpA σ.inc (q.drop g.1) g.2 = r) (fun g _ => q.length - g.1) (0, σ.act)
    ⟨rfl, by dsimp only; omega, ok, Kp.refl _ _, h, by intro v hv; have := hact v hv; dsimp only; omega, hr⟩ ?_
  rintro ⟨k, act⟩ i m1 ⟨rfl, hk, ok1, kp1, h1, hb1, hj⟩
  dsimp only at hk h1 hb1 hj ⊢
  obtain ⟨c1, hc1⟩ := h1.s
  unfold s62_1
  refine ifB_lt (fun hlt => ?_) (fun hlt => ?_)
  · have hkl : k < q.length := by omega
    rw [drop_cons hkl 0] at hj
    simp only [gBumpA] at hj
    refine (hq.keep kp1).sl.get (by omega) (by omega) fun _ _ _ => ?_
    simp only [Int.toNat_natCast]
    have gp := hg _ (mem_getD hkl 0)
    have ha := good_abs gp
    generalize q.getD k 0 = p at hj gp ha ⊢
    have hj1 : 0 ≤ goVar p ∧ goVar p < 13 := by rw [ha.2.2.2.2]; omega
    have hjn : (goVar p).toNat = p.natAbs := by rw [ha.2.2.2.2]; omega
    refine ⟨hj1.1, hj1.2, ?_⟩
    rw [hjn]
    refine ⟨_, hc1.so.act (by omega), _, hc1.so.inc, ?_⟩
    refine ⟨hj1.1, hj1.2, ?_⟩
    rw [hjn]
    have hbv := hb1 p.natAbs (by omega)
    have hw : IntKind.wrap .i64 (c1.act p.natAbs + c1.inc) = act p.natAbs + σ.inc := by
      rw [hc1.rep.act _ (by omega), hc1.rep.inc]
      dsimp only
      rw [wrap_i64 (by omega) (by omega)]
    rw [hw]
    refine hc1.so.st_act ok1 (by omega) ?_
    intro m2 ok2 kp2 b2
    refine ⟨(k + 1, fupd act p.natAbs (act p.natAbs + σ.inc)), _, rfl, ⟨wrapS k (by omega), by dsimp only; omega, ok2, kp1.trans kp2, ?_, ?_, hj⟩, by dsimp only; omega⟩
    · refine Sat.own hd h1 hc1 kp2 b2 ⟨rfl, rfl, rfl, rfl, rfl⟩ ⟨?_, hc1.rep.phase, hc1.rep.inc, hc1.rep.alive, hc1.rep.count, hc1.rep.conf, hc1.rep.rest, hc1.rep.since⟩ rfl rfl rfl
      intro v hv
      show fupd c1.act p.natAbs (act p.natAbs + σ.inc) v = fupd act p.natAbs (act p.natAbs + σ.inc) v
      by_cases he : v = p.natAbs
      · subst he; rw [fupd_at, fupd_at]
      · rw [fupd_ne _ _ he, fupd_ne _ _ he]; exact hc1.rep.act v hv
    · intro v hv
      show 0 ≤ fupd act p.natAbs (act p.natAbs + σ.inc) v ∧ fupd act p.natAbs (act p.natAbs + σ.inc) v ≤ 2 ^ 60 + ((k + 1 : Nat) : Int) * 2 ^ 40
      have := hb1 v hv
      by_cases he : v = p.natAbs
      · subst he; rw [fupd_at]; omega
      · rw [fupd_ne _ _ he]; omega
  · rw [e62_1x0]
    have : k = q.length := by omega
    subst this
    rw [List.drop_length] at hj
    simp only [gBumpA] at hj
    subst hj
    unfold s62_1x0
    refine ⟨_, hc1.so.inc, ?_⟩
    refine hc1.so.st_inc ok1 ?_
    intro m2 ok2 kp2 b2
    refine hK m2 ok2 ((kp1.trans kp2).mono (by simp [foot])) ?_
    refine Sat.own hd h1 hc1 kp2 b2 ⟨rfl, rfl, rfl, rfl, rfl⟩ ⟨hc1.rep.act, hc1.rep.phase, ?_, hc1.rep.alive, hc1.rep.count, hc1.rep.conf, hc1.rep.rest, hc1.rep.since⟩ rfl rfl rfl
    dsimp only
    rw [hc1.rep.inc]
    dsimp only
    rw [wrap_i64 (by omega) (by omega)]; omega

def gRestart (σ : St) : St :=
  if goInterval σ.rest > 0 ∧ ((σ.since + 1 : Nat) : Int) ≥ goInterval σ.rest then { gJump { σ with since := σ.since + 1 } 0 with rest := σ.rest + 1, since := 0 }
  else { σ with since := σ.since + 1 }
theorem restart_spec {B : Bk} {la : Option Addr} {σ : St} {K : Value → Mem → Prop} {m : Mem} (hd : B.Dist) (h : Sat m B la σ) (h1 : σ.rest ≤ 2 ^ 40) (h2 : σ.since ≤ 2 ^ 40)
    (hK : ∀ m', m'.Ok → Kp (foot B la) m m' → Sat m' B la (gRestart σ) → K (.tuple #[]) m') : callOK Tryz.prog W0 63 [ptr B.s 0] K m := by
  refine callOK_ok fun ok => call63 ?_
  unfold s63
  obtain ⟨c, hc⟩ := h.s
  refine ⟨_, hc.so.since, ?_⟩
  dsimp only
  have hw : IntKind.wrap .i64 (c.since + 1) = ((σ.since + 1 : Nat) : Int) := by rw [hc.rep.since, wrap_i64 (by omega) (by omega)]; omega
  rw [hw]
  refine hc.so.st_since ok ?_
  intro m1 ok1 kp1 b1
  have hs1 : Sat m1 B la { σ with since := σ.since + 1 } := Sat.own hd h hc kp1 b1 ⟨rfl, rfl, rfl, rfl, rfl⟩ ⟨hc.rep.act, hc.rep.phase, hc.rep.inc, hc.rep.alive, hc.rep.count, hc.rep.conf, hc.rep.rest, rfl⟩ rfl rfl rfl
  have kf1 : Kp (foot B la) m m1 := kp1.mono (by simp [foot])
  refine ⟨_, b1.restarts, ?_⟩
  dsimp only
  rw [hc.rep.rest]
  unfold gRestart at hK
  refine ifB_gt (fun hgt => ?_) (fun hgt => ?_)
  · refine ⟨_, b1.since, ?_⟩
    dsimp only
    refine ifB_ge (fun hge => ?_) (fun hge => ?_)
    · rw [if_pos ⟨hgt, hge⟩] at hK
      refine jump_spec (level := 0) hd hs1 (Nat.zero_le _) ?_
      intro m2 ok2 kp2 hs2
      refine ⟨rfl, ?_⟩
      obtain ⟨c2, hc2⟩ := hs2.s
      refine ⟨_, hc2.so.restarts, ?_⟩
      dsimp only
      have hw2 : IntKind.wrap .i64 (c2.restarts + 1) = ((σ.rest + 1 : Nat) : Int) := by rw [hc2.rep.rest]; dsimp only [gJump]; rw [wrap_i64 (by omega) (by omega)]; omega
      rw [hw2]
      refine hc2.so.st_restarts ok2 ?_
      intro m3 ok3 kp3 b3
      refine b3.st_since ok3 ?_
      intro m4 ok4 kp4 b4
      refine hK m4 ok4 ((kf1.trans kp2).trans ((kp3.trans kp4).mono (by simp [foot]))) ?_
      exact Sat.own hd hs2 hc2 (kp3.trans kp4) b4 ⟨rfl, rfl, rfl, rfl, rfl⟩ ⟨hc2.rep.act, hc2.rep.phase, hc2.rep.inc, hc2.rep.alive, hc2.rep.count, hc2.rep.conf, rfl, rfl⟩ rfl rfl rfl
    · rw [if_neg (fun h0 => by omega)] at hK
      exact hK m1 ok1 kf1 hs1
  · rw [if_neg (fun h0 => by omega)] at hK
    exact hK m1 ok1 kf1 hs1
end Go.Proofs.Qxb6500974aGreat
