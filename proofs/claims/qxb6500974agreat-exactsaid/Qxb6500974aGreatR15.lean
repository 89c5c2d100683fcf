import Derived.Test.Qxb6500974aGreatR14
set_option linter.all false
set_option linter.unusedSimpArgs false
set_option linter.unusedVariables false
namespace Go.Proofs.Qxb6500974aGreat
open Go.Eng
variable {W0 : World}

theorem gForgetA_keep : ∀ (n k : Nat) (σ : St), (gForgetA n k σ).act = σ.act ∧ (gForgetA n k σ).phase = σ.phase ∧ (gForgetA n k σ).inc = σ.inc ∧ (gForgetA n k σ).conf = σ.conf ∧ (gForgetA n k σ).rest = σ.rest ∧ (gForgetA n k σ).since = σ.since ∧ (gForgetA n k σ).t = σ.t ∧ (gForgetA n k σ).count ≤ σ.count
  | 0, k, σ => by simp [gForgetA]
  | n + 1, k, σ => by
    simp only [gForgetA]
    split
    · split
      · split
        · exact gForgetA_keep n (k + 1) σ
        · have := gForgetA_keep n (k + 1) (gDrop σ k)
          simp only [gDrop] at this ⊢
          refine ⟨this.1, this.2.1, this.2.2.1, this.2.2.2.1, this.2.2.2.2.1, this.2.2.2.2.2.1, this.2.2.2.2.2.2.1, ?_⟩
          have := this.2.2.2.2.2.2.2
          omega
      · exact gForgetA_keep n (k + 1) σ
    · simp
theorem gForget_keep (σ : St) : (gForget σ).act = σ.act ∧ (gForget σ).phase = σ.phase ∧ (gForget σ).inc = σ.inc ∧ (gForget σ).conf = σ.conf ∧ (gForget σ).rest = σ.rest ∧ (gForget σ).since = σ.since ∧ (gForget σ).t = σ.t ∧ (gForget σ).count ≤ σ.count := by
  unfold gForget
  split
  · simp
  · exact gForgetA_keep _ _ _
def gNoted (σ : St) (a : Lrn) : St := { σ with conf := σ.conf + 1, log := gNote false a.lits σ.log }
def gMid (σ : St) (a : Lrn) : St := gForget (gJump (gNoted σ a) a.back.toNat)
def gJoin (σ : St) (lits : List Int) : St := { σ with w := fupd σ.w (gRoom σ.w true).toNat ⟨1, lits⟩, alive := fupd σ.alive ((gRoom σ.w true).toNat - 40) true, count := σ.count + 1 }
def gConfl (σ : St) (conf : Nat) : St × Bool :=
  if (gAnalyze σ.w σ.t conf).err ≠ 0 then ({ σ with conf := σ.conf + 1, log := gNote false [] σ.log }, false)
  else (gRestart (gBump (gJoin (gMid σ (gAnalyze σ.w σ.t conf)) (gAnalyze σ.w σ.t conf).lits) (gAnalyze σ.w σ.t conf).lits), true)
structure CfReady (σ : St) (conf : Nat) : Prop where
  live : (σ.w conf).st ≠ 0
  all : ∀ x ∈ (σ.w conf).lits, σ.t.value x = -1
  nf : (gAnalyze σ.w σ.t conf).err = 0 → NF (gAnalyze σ.w σ.t conf).lits
  back : (gAnalyze σ.w σ.t conf).err = 0 → 0 ≤ (gAnalyze σ.w σ.t conf).back ∧ (gAnalyze σ.w σ.t conf).back ≤ σ.t.dep
  room : (gAnalyze σ.w σ.t conf).err = 0 → ∃ id : Nat, gRoom (gMid σ (gAnalyze σ.w σ.t conf)).w true = (id : Int) ∧ 40 ≤ id ∧ id < 52 ∧ ((gMid σ (gAnalyze σ.w σ.t conf)).w id).st = 0
  alive : ∀ k, k < 12 → σ.alive k = true → (σ.w (40 + k)).st ≠ 0
  log : σ.log.length ≤ 2 ^ 28
  count : σ.count ≤ 50
  conf : σ.conf ≤ 2 ^ 20
  rest : σ.rest ≤ 2 ^ 20
  since : σ.since ≤ 2 ^ 20
  inc : σ.inc ≤ 2 ^ 20
  act : ∀ v, v < 13 → 0 ≤ σ.act v ∧ σ.act v ≤ 2 ^ 50
theorem foot_sub {B : Bk} {la x : Option Addr} {m : Mem} (hx : InS (blkOf la) m (blkOf x)) : InS (foot B la) m (foot B x) := by
  intro y hy
  simp only [foot, List.mem_cons] at hy ⊢
  rcases hy with rfl | rfl | rfl | rfl | hy
  · simp
  · simp
  · simp
  · simp
  · rcases hx y hy with h | h
    · simp [h]
    · exact .inr h

theorem foot_out {B : Bk} {la x : Option Addr} {m : Mem} {b : Nat} (hx : InS (blkOf la) m (blkOf x)) (hb : b ∉ foot B la) (hlt : b < m.top) : b ∉ foot B x := by
  intro h
  rcases foot_sub hx b h with h | h
  · exact hb h
  · omega
theorem conflict_spec {B : Bk} {la : Option Addr} {σ : St} {conf : Nat} {K : Value → Mem → Prop} {m : Mem} (hd : B.Dist) (h : Sat m B la σ) (hr : CfReady σ conf)
    (hK : ∀ la' m', m'.Ok → Kp (foot B la) m m' → InS (blkOf la) m (blkOf la') → Sat m' B la' (gConfl σ conf).1 → K (.bool (gConfl σ conf).2) m') : callOK Tryz.prog W0 30 [ptr B.s 0, .int .i64 conf] K m := by
  refine callOK_ok fun ok => call30 ?_
  have hlt := h.lt ok
  unfold s30
  obtain ⟨c, hc⟩ := h.s
  have hrc := hr.conf
  refine ⟨_, hc.so.conflicts, ?_⟩
  dsimp only
  have hw1 : IntKind.wrap .i64 (c.conflicts + 1) = ((σ.conf + 1 : Nat) : Int) := by rw [hc.rep.conf, wrap_i64 (by omega) (by omega)]; omega
  rw [hw1]
  refine hc.so.st_conflicts ok ?_
  intro m1 ok1 kp1 b1
  have h1 : Sat m1 B la { σ with conf := σ.conf + 1 } := Sat.own hd h hc kp1 b1 ⟨rfl, rfl, rfl, rfl, rfl⟩ ⟨hc.rep.act, hc.rep.phase, hc.rep.inc, hc.rep.alive, hc.rep.count, rfl, hc.rep.rest, hc.rep.since⟩ rfl rfl rfl
  have kf1 : Kp (foot B la) m m1 := kp1.mono (by simp [foot])
  obtain ⟨c1, hc1⟩ := h1.s
  refine ⟨_, hc1.so.l, ?_⟩
  rw [hc1.l]
  refine analyze_spec h1.l h1.t h1.w (fun h0 => hd.tl h0.symm) (fun h0 => hd.wl h0.symm) hr.live hr.all ?_
  intro x2 m2 ok2 kp2 hl2 fz2
  refine ⟨_, _, _, _, _, _, rfl, ?_⟩
  dsimp only at fz2 ⊢
  unfold gConfl at hK
  have hnf := hr.nf
  have hback := hr.back
  have hroom := hr.room
  generalize gAnalyze σ.w σ.t conf = A at hK fz2 hnf hback hroom ⊢
  have nl : ∀ x, x = B.t ∨ x = B.w ∨ x = B.s ∨ x ∈ blkOf la → x ∉ [B.l] := by
    intro x hx
    simp only [List.mem_singleton]
    rcases hx with rfl | rfl | rfl | hx
    · exact hd.tl
    · exact hd.wl
    · exact fun h0 => hd.ls h0.symm
    · exact (h1.d x hx).2.2.1
  have h2 : Sat m2 B la { σ with conf := σ.conf + 1 } := ⟨h1.t.keep kp2 (nl _ (by simp)), h1.w.keep kp2 (nl _ (by simp)), hl2, ⟨c1, hc1.keep kp2 (nl _ (by simp)) (fun x hx => nl x (by simp [hx]))⟩, h1.d⟩
  have kf2 : Kp (foot B la) m m2 := kf1.trans (kp2.mono (by simp [foot]))
  have hlt2 := h2.lt ok2
  rw [zero123]
  intro b3 hb3
  have hk3 := Kp.new (S := []) ok2 hb3 (Blk.ofList [(.int .i64 0), (.slice none 0 0), (.int .i64 0), (.int .i64 0)])
  have bn3 : BlkN (m2.new b3 (Blk.ofList [(.int .i64 0), (.slice none 0 0), (.int .i64 0), (.int .i64 0)])) b3 4 := BlkN.new b3 (by simp)
  have ok3 := ok2.new hb3 (Blk.ofList [(.int .i64 0), (.slice none 0 0), (.int .i64 0), (.int .i64 0)])
  generalize m2.new b3 (Blk.ofList [(.int .i64 0), (.slice none 0 0), (.int .i64 0), (.int .i64 0)]) = m3 at hk3 bn3 ok3
  have top2 := kf2.top
  have nb3 : ∀ x ∈ foot B la, x ∉ [b3] := fun x hx => by have := hlt2 x hx; simp; omega
  have b3n : b3 ∉ foot B la := fun h0 => by have := hlt2 b3 h0; omega
  refine stL_put ok3 bn3 (by simp) (by intro v hv; simp at hv; rcases hv with rfl | rfl | rfl | rfl <;> rfl) (by simp) ?_
  intro m4 ok4 kp4 row4 bn4
  have h4 : Sat m4 B la { σ with conf := σ.conf + 1 } := (h2.keep hk3 (fun _ _ => by simp)).keep kp4 nb3
  have kf4 : Kp (foot B la) m m4 := (kf2.trans hk3.of_nil).step kp4 ok (fun b' hb' => .inr (by simp at hb'; omega))
  have fz4 := (fz2.keep hk3).keep kp4
  have hrl := hr.log
  obtain ⟨r0, r1, r2, r3, _⟩ := row4
  have lt4 := bn4.lt ok4
  refine ⟨_, r0, ?_⟩
  refine ifB_ne (fun hne => ?_) (fun he => ?_)
  · rw [if_pos hne] at hK
    refine note_spec (del := false) (q := []) hd h4 (Elt.fz.nil _) (by dsimp only; omega) (by simp) ?_
    intro la5 m5 ok5 kp5 in5 h5
    exact ⟨rfl, hK la5 m5 ok5 (kf4.trans kp5) ((InS.self _ _).trans in5 kf4.top) h5⟩
  · rw [if_neg (by simpa using he)] at hK
    have hnf := hnf he
    have hback := hback he
    obtain ⟨id, hid, hid1, hid2, hid3⟩ := hroom he
    have hl12 := hnf.len
    refine ⟨_, _, _, r1, ?_⟩
    refine note_spec (del := false) hd h4 fz4 (by dsimp only; omega) (by omega) ?_
    intro la5 m5 ok5 kp5 in5 h5
    refine ⟨rfl, ?_⟩
    have kf5 := kf4.trans kp5
    have in5' : InS (blkOf la) m (blkOf la5) := (InS.self _ _).trans in5 kf4.top
    have b5n := foot_out in5 b3n lt4
    refine ⟨_, kp5.cell b3n r3, ?_⟩
    obtain ⟨bk, hbk⟩ : ∃ bk : Nat, A.back = bk := ⟨A.back.toNat, by omega⟩
    rw [hbk]
    refine jump_spec (level := bk) hd h5 (by dsimp only; omega) ?_
    intro m6 ok6 kp6 h6
    refine ⟨rfl, ?_⟩
    have kf6 : Kp (foot B la) m m6 := kf5.step kp6 ok (foot_sub in5')
    have e6 : gJump { { σ with conf := σ.conf + 1 } with log := gNote false A.lits σ.log } bk = gJump (gNoted σ A) A.back.toNat := by rw [hbk]; rfl
    rw [e6] at h6
    have fz6 := (fz4.keep kp5).keep kp6
    have lt5 : b3 < m5.top := Nat.lt_of_lt_of_le lt4 kp5.top
    have lt6 : b3 < m6.top := Nat.lt_of_lt_of_le lt5 kp6.top
    have hga : gNote false A.lits σ.log = σ.log ++ A.lits ++ [0] := rfl
    refine forget_spec hd h6 ?_ ?_ ?_ ?_
    · intro k hk hal
      exact hr.alive k hk hal
    · show (gNote false A.lits σ.log).length ≤ 2 ^ 29
      rw [hga]; simp; omega
    · show σ.count ≤ 100
      have := hr.count; omega
    intro la7 m7 ok7 kp7 in7 h7
    refine ⟨rfl, ?_⟩
    have kf7 : Kp (foot B la) m m7 := kf6.step kp7 ok (foot_sub in5')
    have in7' : InS (blkOf la) m (blkOf la7) := in5'.trans in7 kf6.top
    have b7n := foot_out in7 b5n lt6
    have h7' : Sat m7 B la7 (gMid σ A) := h7
    have fz7 := fz6.keep kp7
    have q1 := kp7.cell b5n (kp6.cell b5n (kp5.cell b3n r1))
    obtain ⟨c7, hc7⟩ := h7'.s
    refine ⟨_, hc7.so.w, ?_⟩
    rw [hc7.w]
    refine ⟨_, _, _, q1, ?_⟩
    obtain ⟨fw, fw1, fw2⟩ := h7'.w.wr
    have fk : (gMid σ A).act = σ.act ∧ (gMid σ A).inc = σ.inc ∧ (gMid σ A).rest = σ.rest ∧ (gMid σ A).since = σ.since ∧ (gMid σ A).count ≤ σ.count := by
      have := gForget_keep (gJump (gNoted σ A) A.back.toNat)
      exact ⟨this.1, this.2.2.1, this.2.2.2.2.1, this.2.2.2.2.2.1, this.2.2.2.2.2.2.2⟩
    unfold gJoin at hK
    generalize hS : gMid σ A = S7 at h7' hc7 hid hid3 fk hK
    refine add_spec (id := id) h7'.w fz7.sl (fun hne => fz_ne fz7 fw1 fw2 hne) hnf hid hid2 hid3 ?_
    intro m8 ok8 kp8 hw8
    refine ⟨_, _, rfl, ?_⟩
    with_reducible refine ifB_eq (fun _ => ?_) (fun h0 => absurd rfl h0)
    have nw : ∀ x, x = B.t ∨ x = B.l ∨ x = B.s ∨ x ∈ blkOf la7 → x ∉ [B.w] := by
      intro x hx
      simp only [List.mem_singleton]
      rcases hx with rfl | rfl | rfl | hx
      · exact hd.tw
      · exact fun h0 => hd.wl h0.symm
      · exact fun h0 => hd.ws h0.symm
      · exact (h7'.d x hx).2.1
    have hc8 := hc7.keep kp8 (nw _ (by simp)) (fun x hx => nw x (by simp [hx]))
    have h8 : Sat m8 B la7 { S7 with w := fupd S7.w id ⟨1, A.lits⟩ } := ⟨h7'.t.keep kp8 (nw _ (by simp)), hw8, h7'.l.keep kp8 (nw _ (by simp)), ⟨c7, hc8.so, hc8.p, hc8.t, hc8.w, hc8.l, hc8.la, hc8.own, ⟨hc8.rep.act, hc8.rep.phase, hc8.rep.inc, hc8.rep.alive, hc8.rep.count, hc8.rep.conf, hc8.rep.rest, hc8.rep.since⟩⟩, h7'.d⟩
    have kf8 : Kp (foot B la) m m8 := kf7.trans (kp8.mono (by simp [foot]))
    have hk40 : IntKind.wrap .i64 ((id : Int) - 40) = ((id - 40 : Nat) : Int) := by rw [wrap_i64 (by omega) (by omega)]; omega
    rw [hk40]
    obtain ⟨c8, hc8'⟩ := h8.s
    refine ⟨_, hc8'.so.alive, wrap_u64_nonneg _, ?_⟩
    refine hc8'.so.st_alive ok8 ?_
    intro m9 ok9 kp9 b9
    refine ⟨_, b9.count, ?_⟩
    dsimp only
    have hcnt : IntKind.wrap .i64 (c8.count + 1) = ((S7.count + 1 : Nat) : Int) := by
      rw [hc8'.rep.count]
      dsimp only
      have := hr.count
      rw [wrap_i64 (by omega) (by omega)]; omega
    rw [hcnt]
    refine b9.st_count ok9 ?_
    intro m10 ok10 kp10 b10
    have hidn : (gRoom S7.w true).toNat = id := by rw [hid]; simp
    rw [hidn] at hK
    have h10 : Sat m10 B la7 { S7 with w := fupd S7.w id ⟨1, A.lits⟩, alive := fupd S7.alive (id - 40) true, count := S7.count + 1 } := Sat.own hd h8 hc8' (kp9.trans kp10) b10 ⟨rfl, rfl, rfl, rfl, rfl⟩ ⟨hc8'.rep.act, hc8'.rep.phase, hc8'.rep.inc, pset16 hc8'.rep.alive (by omega), rfl, hc8'.rep.conf, hc8'.rep.rest, hc8'.rep.since⟩ rfl rfl rfl
    have kf10 : Kp (foot B la) m m10 := kf8.trans ((kp9.trans kp10).mono (by simp [foot]))
    have q2 := (kp9.trans kp10).cell (fun h0 => b7n (by simp at h0; simp [foot, h0])) (kp8.cell (fun h0 => b7n (by simp at h0; simp [foot, h0])) q1)
    refine ⟨_, _, _, q2, ?_⟩
    have fz10 := ((fz7.keep kp8).keep kp9).keep kp10
    refine bump_spec hd h10 fz10 hnf.1 hl12 ?_ ?_ ?_
    · intro v hv
      dsimp only
      rw [fk.1]
      have := hr.act v hv
      omega
    · dsimp only
      rw [fk.2.1]
      have := hr.inc
      omega
    intro m11 ok11 kp11 h11
    refine ⟨rfl, ?_⟩
    have kf11 : Kp (foot B la) m m11 := kf10.step kp11 ok (foot_sub in7')
    refine restart_spec hd h11 ?_ ?_ ?_
    · show S7.rest ≤ 2 ^ 40
      rw [fk.2.2.1]; have := hr.rest; omega
    · show S7.since ≤ 2 ^ 40
      rw [fk.2.2.2.1]; have := hr.since; omega
    intro m12 ok12 kp12 h12
    exact ⟨rfl, hK la7 m12 ok12 (kf11.step kp12 ok (foot_sub in7')) in7' h12⟩

structure LogOK (l : List Int) : Prop where
  len : l.length ≤ 262144
  ck : gCheckFlat l = 0
  el : ∀ x ∈ l, x = 13 ∨ x = 0 ∨ goGoodLit x = true
theorem refuted_spec {B : Bk} {la : Option Addr} {σ : St} {K : Value → Mem → Prop} {m : Mem} (hd : B.Dist) (h : Sat m B la σ) (hl : LogOK σ.log)
    (hK : ∀ s m', m'.Ok → Kp (foot B la) m m' → bts s = gPrint σ.log → Sat m' B la { σ with log := [] } →
      K (.agg #[(.int .i64 0), (.int .i64 0), (.bool false), (.slice none 0 0), (.string s), (.int .i64 σ.conf), (.int .i64 σ.rest)]) m') : callOK Tryz.prog W0 31 [ptr B.s 0] K m := by
  refine callOK_ok fun ok => call31 ?_
  have hlt := h.lt ok
  unfold s31
  rw [zero39]
  intro b1 hb1
  have hk1 := Kp.new (S := []) ok hb1 (Blk.ofList [(.int .i64 0), (.int .i64 0), (.bool false), (.slice none 0 0), (.string (ByteArray.mk #[])), (.int .i64 0), (.int .i64 0)])
  have bn1 : BlkN (m.new b1 (Blk.ofList [(.int .i64 0), (.int .i64 0), (.bool false), (.slice none 0 0), (.string (ByteArray.mk #[])), (.int .i64 0), (.int .i64 0)])) b1 7 := BlkN.new b1 (by simp)
  have ok1 := ok.new hb1 (Blk.ofList [(.int .i64 0), (.int .i64 0), (.bool false), (.slice none 0 0), (.string (ByteArray.mk #[])), (.int .i64 0), (.int .i64 0)])
  generalize m.new b1 (Blk.ofList [(.int .i64 0), (.int .i64 0), (.bool false), (.slice none 0 0), (.string (ByteArray.mk #[])), (.int .i64 0), (.int .i64 0)]) = m1 at hk1 bn1 ok1
  have h1 := h.keep hk1 (fun _ _ => by simp)
  obtain ⟨c1, hc1⟩ := h1.s
  refine ⟨_, hc1.so.p, _, _, _, hc1.so.log, ?_⟩
  refine rprint_spec hc1.own.sl hl.len hl.ck hl.el ?_
  intro s m2 ok2 kp2 hs
  refine ⟨_, _, rfl, ?_⟩
  have h2 := h1.keep kp2 (fun _ _ => by simp)
  have hc2 := hc1.keep kp2 (by simp) (fun _ _ => by simp)
  refine ⟨_, _, _, hc2.so.log, ?_⟩
  refine log_zero hd ok2 h2 hc2 ?_
  intro m3 ok3 kp3 h3
  obtain ⟨c3, hc3⟩ := h3.s
  refine ⟨_, hc3.so.conflicts, _, hc3.so.restarts, ?_⟩
  rw [hc3.rep.conf, hc3.rep.rest]
  have k2 := hk1.trans kp2
  have lts := hlt B.s (by simp [foot])
  refine stl7 ok3 ((bn1.keep kp2 (by simp)).keep kp3 (by simp; omega)) ?_
  intro m4 ok4 kp4
  refine hK s m4 ok4 ?_ hs (h3.keep kp4 fun x hx => ?_)
  · exact ((k2.of_nil).trans (kp3.mono (by simp [foot]))).step kp4 ok (fun b' hb' => .inr (by simp at hb'; omega))
  · have := hlt x hx
    simp; omega

structure SolAt (m : Mem) (B : Bk) (la aa : Option Addr) (σ : St) : Prop where
  sat : Sat m B la σ
  pa : ∃ s, PaAt m B.p aa s
  d : ∀ x ∈ B.p :: blkOf aa, x ∉ foot B la
def footS (B : Bk) (la aa : Option Addr) : List Nat := foot B la ++ B.p :: blkOf aa
theorem SolAt.keep {S : List Nat} {m m' : Mem} {B : Bk} {la aa : Option Addr} {σ : St} (h : SolAt m B la aa σ) (hk : Kp S m m') (hs : ∀ x ∈ footS B la aa, x ∉ S) : SolAt m' B la aa σ := by
  obtain ⟨h1, ⟨s, h2⟩, h3⟩ := h
  exact ⟨h1.keep hk fun x hx => hs x (by simp [footS, hx]), ⟨s, h2.keep hk fun x hx => hs x (by simp only [footS, List.mem_append]; exact .inr hx)⟩, h3⟩
theorem SolAt.lt {m : Mem} {B : Bk} {la aa : Option Addr} {σ : St} (ok : m.Ok) (h : SolAt m B la aa σ) : ∀ x ∈ footS B la aa, x < m.top := by
  obtain ⟨h1, ⟨s, h2⟩, h3⟩ := h
  intro x hx
  simp only [footS, List.mem_append] at hx
  rcases hx with hx | hx
  · exact h1.lt ok x hx
  · exact h2.lt ok x hx
def gStepP (σ : St) : St := { σ with w := (gProp σ.w σ.t).1, t := (gProp σ.w σ.t).2.1 }
def gDec (σ : St) : St := { σ with t := σ.t.decide (gPick σ) }
def gRun : Nat → St → Bool × St
  | 0, σ => (false, σ)
  | n + 1, σ =>
    if (gProp σ.w σ.t).2.2 ≥ 0 then
      (if (gConfl (gStepP σ) (gProp σ.w σ.t).2.2.toNat).2 = true then gRun n (gConfl (gStepP σ) (gProp σ.w σ.t).2.2.toNat).1 else (false, (gConfl (gStepP σ) (gProp σ.w σ.t).2.2.toNat).1))
    else if (gStepP σ).t.es.length = 12 then (true, gStepP σ)
    else gRun n (gDec (gStepP σ))

structure Runs (I : St → Prop) (μ : St → Nat) : Prop where
  conf : ∀ σ, I σ → (gProp σ.w σ.t).2.2 ≥ 0 → CfReady (gStepP σ) (gProp σ.w σ.t).2.2.toNat
  next : ∀ σ, I σ → (gProp σ.w σ.t).2.2 ≥ 0 → (gConfl (gStepP σ) (gProp σ.w σ.t).2.2.toNat).2 = true → I (gConfl (gStepP σ) (gProp σ.w σ.t).2.2.toNat).1 ∧ μ (gConfl (gStepP σ) (gProp σ.w σ.t).2.2.toNat).1 < μ σ
  last : ∀ σ, I σ → (gProp σ.w σ.t).2.2 ≥ 0 → (gConfl (gStepP σ) (gProp σ.w σ.t).2.2.toNat).2 = false → LogOK (gConfl (gStepP σ) (gProp σ.w σ.t).2.2.toNat).1.log
  dec : ∀ σ, I σ → (gProp σ.w σ.t).2.2 < 0 → (gStepP σ).t.es.length ≠ 12 → (∀ v, v < 13 → (gStepP σ).phase v = 1 ∨ (gStepP σ).phase v = -1) ∧ goGoodLit (gPick (gStepP σ)) = true ∧ entOf (gStepP σ).t.es (gPick (gStepP σ)).natAbs = none ∧ I (gDec (gStepP σ)) ∧ μ (gDec (gStepP σ)) < μ σ
structure Ans where
  err : Int
  pos : Int
  sat : Bool
  model : List Int
  proof : List UInt8
  conf : Nat
  rest : Nat
def gInit (flat : List Int) : St := { t := Tr.empty, w := gLoadA [] flat 0 emptyW, log := [], act := fun _ => 0, phase := fun _ => -1, inc := 1, alive := fun _ => false, count := 0, conf := 0, rest := 0, since := 0 }
def ansOf (r : Bool × St) : Ans := if r.1 = true then ⟨0, 0, true, gModelA r.2.t 12 1, [], r.2.conf, r.2.rest⟩ else ⟨0, 0, false, [], gPrint r.2.log, r.2.conf, r.2.rest⟩
def gAns (N : Nat) (t : List UInt8) : Ans :=
  if (rParse t).1 ≠ 0 then ⟨(rParse t).1, (rParse t).2.1, false, [], [], 0, 0⟩
  else if gSurvey 0 (rParse t).2.2 ≠ 0 then ⟨gSurvey 0 (rParse t).2.2, 0, false, [], [], 0, 0⟩
  else ansOf (gRun N (gInit (rParse t).2.2))
def gAfter (N : Nat) (σ : St) (t : List UInt8) : St :=
  if (rParse t).1 ≠ 0 then σ else if gSurvey 0 (rParse t).2.2 ≠ 0 then σ else { (gRun N (gInit (rParse t).2.2)).2 with log := [] }

def ModelV (m : Mem) (a : Option Addr) (n : Nat) (l : List Int) : Prop := OwnI m a n n l ∧ (a = none ↔ l = [])
theorem ModelV.nil (m : Mem) : ModelV m none 0 [] := ⟨⟨rfl, [], OwnV.nil m _, trivial⟩, by simp⟩
theorem rdl7 {m : Mem} {b : Nat} {x0 x1 : Int} {x2 : Bool} {a : Option Addr} {n c : Nat} {x4 : ByteArray} {x5 x6 : Int} {K : Value → Mem → Prop} (h : m.row b 0 [(.int .i64 x0), (.int .i64 x1), (.bool x2), (.slice a n c), (.string x4), (.int .i64 x5), (.int .i64 x6)])
    (hK : K (.agg #[(.int .i64 x0), (.int .i64 x1), (.bool x2), (.slice a n c), (.string x4), (.int .i64 x5), (.int .i64 x6)]) m) :
      ldInt .i64 m b 0 fun y0 => ldInt .i64 m b 1 fun y1 => ldBool m b 2 fun y2 => ldSl m b 3 fun a' n' c' => ldStr m b 4 fun y4 => ldInt .i64 m b 5 fun y5 => ldInt .i64 m b 6 fun y6 =>
      K (.agg #[(.int .i64 y0), (.int .i64 y1), (.bool y2), (.slice a' n' c'), (.string y4), (.int .i64 y5), (.int .i64 y6)]) m := by
  obtain ⟨r0, r1, r2, r3, r4, r5, r6, _⟩ := h
  exact ⟨_, r0, _, r1, _, r2, _, _, _, r3, _, r4, _, r5, _, r6, hK⟩
theorem solve_spec {B : Bk} {la aa : Option Addr} {σ : St} {text : ByteArray} {N : Nat} {I : St → Prop} {μ : St → Nat} {K : Value → Mem → Prop} {m : Mem} (hd : B.Dist) (h : SolAt m B la aa σ) (hlog : σ.log = []) (hR : Runs I μ)
    (hload : (rParse (bts text)).1 = 0 → gSurvey 0 (rParse (bts text)).2.2 = 0 → LoadOK [] (rParse (bts text)).2.2 0 ∧ I (gInit (rParse (bts text)).2.2) ∧ μ (gInit (rParse (bts text)).2.2) < N)
    (hlen : (rParse (bts text)).2.2.length < 2 ^ 40)
    (hK : ∀ la' aa' a n s m', m'.Ok → Kp (footS B la aa) m m' → InS (footS B la aa) m (footS B la' aa') → InS [] m (blkOf a) → (∀ x ∈ blkOf a, x ∉ footS B la' aa') → SolAt m' B la' aa' (gAfter N σ (bts text)) → ModelV m' a n (gAns N (bts text)).model → bts s = (gAns N (bts text)).proof →
      K (.agg #[(.int .i64 (gAns N (bts text)).err), (.int .i64 (gAns N (bts text)).pos), (.bool (gAns N (bts text)).sat), (.slice a n n), (.string s), (.int .i64 (gAns N (bts text)).conf), (.int .i64 (gAns N (bts text)).rest)]) m') : callOK Tryz.prog W0 11 [ptr B.s 0, .string text] K m := by
  refine callOK_ok fun ok => call11 ?_
  have hlt := h.lt ok
  unfold s11
  rw [zero39, zero73]
  intro b1 hb1
  have hk1 := Kp.new (S := []) ok hb1 (Blk.ofList [(.int .i64 0), (.int .i64 0), (.bool false), (.slice none 0 0), (.string (ByteArray.mk #[])), (.int .i64 0), (.int .i64 0)])
  have bn1 : BlkN (m.new b1 (Blk.ofList [(.int .i64 0), (.int .i64 0), (.bool false), (.slice none 0 0), (.string (ByteArray.mk #[])), (.int .i64 0), (.int .i64 0)])) b1 7 := BlkN.new b1 (by simp)
  have ok1 := ok.new hb1 (Blk.ofList [(.int .i64 0), (.int .i64 0), (.bool false), (.slice none 0 0), (.string (ByteArray.mk #[])), (.int .i64 0), (.int .i64 0)])
  generalize m.new b1 (Blk.ofList [(.int .i64 0), (.int .i64 0), (.bool false), (.slice none 0 0), (.string (ByteArray.mk #[])), (.int .i64 0), (.int .i64 0)]) = m1 at hk1 bn1 ok1
  have lt1 := bn1.lt ok1
  have top1 := hk1.top
  have h1 := h.keep hk1 (fun _ _ => by simp)
  obtain ⟨hsat1, ⟨s1, hpa1⟩, hdis1⟩ := h1
  obtain ⟨c1, hc1⟩ := hsat1.s
  refine ⟨_, hc1.so.p, ?_⟩
  rw [hc1.p]
  refine rparse_spec hpa1 ?_
  intro a2 n2 aa2 s2 m2 ok2 kp2 in2 hpa2 fz2
  refine ⟨_, _, _, _, _, rfl, ?_⟩
  unfold gAns at hK
  unfold gAfter at hK
  generalize rParse (bts text) = P at hK hload hlen fz2 ⊢
  have fS : ∀ x, x ∈ foot B la → x ∈ footS B la aa := fun x hx => by simp [footS, hx]
  have pS : ∀ x, x ∈ B.p :: blkOf aa → x ∈ footS B la aa := fun x hx => by simp only [footS, List.mem_append]; exact .inr hx
  have nb1 : b1 ∉ footS B la aa := fun h0 => by have := hlt b1 h0; omega
  have nfp : ∀ x ∈ foot B la, x ∉ B.p :: blkOf aa := fun x hx h0 => hdis1 x h0 hx
  have hsat2 := hsat1.keep kp2 nfp
  have hlt2 := hsat2.lt ok2
  have kf2 : Kp (footS B la aa) m m2 := hk1.of_nil.trans (kp2.mono pS)
  have inp2 : InS (B.p :: blkOf aa) m (B.p :: blkOf aa2) := by
    intro x hx
    exact ((sub_cons in2 : InS (B.p :: blkOf aa) m1 (B.p :: blkOf aa2)) x hx).orMap id (fun h0 => by omega)
  have dis2 : ∀ x ∈ B.p :: blkOf aa2, x ∉ foot B la := by
    intro x hx hx2
    rcases inp2 x hx with h0 | h0
    · exact hdis1 x h0 hx2
    · have := hlt x (fS x hx2); omega
  have hlp2 := hpa2.lt ok2
  have nb2 : b1 ∉ B.p :: blkOf aa2 := by
    intro h0
    rcases (sub_cons in2 : InS (B.p :: blkOf aa) m1 (B.p :: blkOf aa2)) b1 h0 with h9 | h9
    · exact nb1 (pS _ h9)
    · omega
  have bn2 := bn1.keep kp2 (fun h0 => nb1 (pS _ h0))
  have lt2 := bn2.lt ok2
  have inF : ∀ {la' : Option Addr}, InS (blkOf la) m (blkOf la') → InS (footS B la aa) m (footS B la' aa2) := by
    intro la' hin x hx
    simp only [footS, List.mem_append] at hx
    rcases hx with hx | hx
    · exact (foot_sub hin x hx).orMap (fS x) id
    · exact (inp2 x hx).orMap (pS x) id

  intro b3 hb3
  have hk3 := Kp.new (S := []) ok2 hb3 (Blk.ofList [.int .i64 0, .int .i64 0, .slice none 0 0])
  have bn3 : BlkN (m2.new b3 (Blk.ofList [.int .i64 0, .int .i64 0, .slice none 0 0])) b3 3 := BlkN.new b3 (by simp)
  have ok3 := ok2.new hb3 (Blk.ofList [.int .i64 0, .int .i64 0, .slice none 0 0])
  generalize m2.new b3 (Blk.ofList [.int .i64 0, .int .i64 0, .slice none 0 0]) = m3 at hk3 bn3 ok3
  have top2 := kf2.top
  refine stL_put ok3 bn3 (by simp) (by intro v hv; simp at hv; rcases hv with rfl | rfl | rfl <;> rfl) (by simp) ?_
  intro m4 ok4 kp4 row4 bn4
  have n3f : ∀ x ∈ foot B la, x ∉ [b3] := fun x hx => by have := hlt2 x hx; simp; omega
  have n3p : ∀ x ∈ B.p :: blkOf aa2, x ∉ [b3] := fun x hx => by have := hlp2 x hx; simp; omega
  have hsat4 := (hsat2.keep hk3 (fun _ _ => by simp)).keep kp4 n3f
  have hpa4 := (hpa2.keep hk3 (fun _ _ => by simp)).keep kp4 n3p
  have kf4 : Kp (footS B la aa) m m4 := (kf2.trans hk3.of_nil).step kp4 ok (fun b' hb' => .inr (by simp at hb'; omega))
  have bn14 := (bn2.keep hk3 (by simp)).keep kp4 (by simp; omega)
  have fz4 := (fz2.keep hk3).keep kp4
  obtain ⟨r0, r1, r2, _⟩ := row4

  have nbf : b1 ∉ foot B la := fun h0 => nb1 (fS _ h0)
  have wr1 : ∀ {m5 m6 : Mem}, Kp (footS B la aa) m m5 → Kp [b1] m5 m6 → Kp (footS B la aa) m m6 := fun h h' => h.step h' ok (fun b' hb' => .inr (by simp at hb'; omega))
  have bad : ∀ e q : Int, (∀ la' aa' a n s m', m'.Ok → Kp (footS B la aa) m m' → InS (footS B la aa) m (footS B la' aa') → InS [] m (blkOf a) → (∀ x ∈ blkOf a, x ∉ footS B la' aa') → SolAt m' B la' aa' σ → ModelV m' a n [] → bts s = [] →
      K (.agg #[(.int .i64 e), (.int .i64 q), (.bool false), (.slice a n n), (.string s), (.int .i64 ((0 : Nat) : Int)), (.int .i64 ((0 : Nat) : Int))]) m') →
      stL m4 b1 0 [(.int .i64 e), (.int .i64 q), (.bool false), (.slice none 0 0), (.string (ByteArray.mk #[])), (.int .i64 0), (.int .i64 0)] fun m_14 =>
      ldInt .i64 m_14 b1 0 fun x_15 => ldInt .i64 m_14 b1 1 fun x_16 => ldBool m_14 b1 2 fun y_17 => ldSl m_14 b1 3 fun l_18a l_18l l_18c => ldStr m_14 b1 4 fun s_19 => ldInt .i64 m_14 b1 5 fun x_20 => ldInt .i64 m_14 b1 6 fun x_21 =>
      K (.agg #[(.int .i64 x_15), (.int .i64 x_16), (.bool y_17), (.slice l_18a l_18l l_18c), (.string s_19), (.int .i64 x_20), (.int .i64 x_21)]) m_14 := by
    intro e q hK'
    refine stl7 ok4 bn14 ?_
    intro m5 ok5 kp5
    refine hK' la aa2 none 0 _ m5 ok5 (wr1 kf4 kp5) (inF (InS.self _ _)) (InS.nil _ _) (by simp [blkOf]) ⟨hsat4.keep kp5 ?_, ⟨_, hpa4.keep kp5 ?_⟩, dis2⟩ (ModelV.nil _) (by simp [bts])
    · intro x hx h0; simp at h0; subst h0; exact nbf hx
    · intro x hx h0; simp at h0; subst h0; exact nb2 hx
  refine ⟨_, r0, ?_⟩
  refine ifB_ne (fun hne => ?_) (fun he => ?_)
  · rw [if_pos hne] at hK
    rw [if_pos hne] at hK
    refine ⟨_, r0, _, r1, ?_⟩
    exact bad _ _ hK
  · have he' : ¬ P.1 ≠ 0 := by simpa using he
    rw [if_neg he'] at hK
    rw [if_neg he'] at hK
    refine ⟨_, _, _, r2, ?_⟩
    refine survey_spec fz4.sl (by omega) rfl ⟨_, rfl, ?_⟩
    have hload := hload he
    generalize hsv : gSurvey 0 P.2.2 = sv at hK hload ⊢
    refine ifB_ne (fun hne2 => ?_) (fun he2 => ?_)
    · rw [if_pos hne2] at hK
      rw [if_pos hne2] at hK
      exact bad _ _ hK
    · have he2' : ¬ sv ≠ 0 := by simpa using he2
      rw [if_neg he2'] at hK
      rw [if_neg he2'] at hK
      obtain ⟨hlk, hI, hmu⟩ := hload he2
      refine begin_spec hd hsat4 ?_
      intro m5 ok5 kp5 h5
      refine ⟨rfl, ?_⟩
      have b3f : b3 ∉ foot B la := fun h0 => n3f b3 h0 (by simp)
      refine ⟨_, _, _, kp5.cell b3f r2, ?_⟩
      refine load_spec hd h5 rfl (fz4.keep kp5) (Nat.le_refl _) hlen hlk ?_
      intro m6 ok6 kp6 h6
      refine ⟨rfl, ?_⟩
      have h6' : Sat m6 B la (gInit P.2.2) := by
        have : gInit P.2.2 = { gBegin σ with w := gLoadA [] P.2.2 0 emptyW } := by unfold gInit gBegin; rw [hlog]
        rw [this]; exact h6
      have kf6 : Kp (footS B la aa) m m6 := (kf4.trans (kp5.mono fS)).trans (kp6.mono fS)
      have bn6 := (bn14.keep kp5 nbf).keep kp6 nbf
      have np : ∀ {la' : Option Addr} {m' : Mem}, (∀ x ∈ B.p :: blkOf aa2, x ∉ foot B la') → ∀ x ∈ B.p :: blkOf aa2, x ∉ foot B la' := fun h => h
      have hpa6 := (hpa4.keep kp5 dis2).keep kp6 dis2
      obtain ⟨r, hr⟩ : ∃ r, gRun N (gInit P.2.2) = r := ⟨_, rfl⟩
      rw [hr] at hK
      refine loop11_1 (γ := Nat × Option Addr × St) (fun g m' => μ g.2.2 < g.1 ∧ I g.2.2 ∧ gRun g.1 g.2.2 = r ∧ m'.Ok ∧ Kp (footS B la aa) m m' ∧ InS (blkOf la) m (blkOf g.2.1) ∧ Sat m' B g.2.1 g.2.2 ∧ (∃ s, PaAt m' B.p aa2 s) ∧ (∀ x ∈ B.p :: blkOf aa2, x ∉ foot B g.2.1) ∧ BlkN m' b1 7 ∧ b1 ∉ foot B g.2.1) (fun g => g.1) (N, la, gInit P.2.2)
        ⟨hmu, hI, hr, ok6, kf6, InS.self _ _, h6', ⟨_, hpa6⟩, dis2, bn6, nbf⟩ ?_
      clear hsat1 hc1 hsat2 hsat4 h5 h6 h6' hpa1 hpa2 hpa4 hpa6
      rintro ⟨k, la7, s7⟩ m7 ⟨hmu7, hI7, hr7, ok7, kf7, in7, h7, ⟨ps7, hpa7⟩, dis7, bn7, nb7⟩
      dsimp only at hmu7 hI7 hr7 in7 h7 dis7 nb7 ⊢
      have sub7 : InS (footS B la aa) m (foot B la7) := fun x hx => (foot_sub in7 x hx).orMap (fS x) id
      obtain ⟨n, rfl⟩ : ∃ n, k = n + 1 := ⟨k - 1, by omega⟩
      simp only [gRun] at hr7
      unfold s11_1
      obtain ⟨c7, hc7⟩ := h7.s
      refine ⟨_, hc7.so.w, ?_⟩
      rw [hc7.w]
      have rc := hR.conf s7 hI7
      have rn := hR.next s7 hI7
      have rl := hR.last s7 hI7
      have rd := hR.dec s7 hI7
      refine propagate_spec h7.w h7.t (fun h0 => hd.tw h0.symm) ?_
      intro m8 ok8 kp8 hw8 ht8
      refine ⟨_, rfl, ?_⟩
      have nwt : ∀ x, x = B.l ∨ x = B.s ∨ x ∈ blkOf la7 → x ∉ [B.w, B.t] := by
        intro x hx
        simp only [List.mem_cons, List.not_mem_nil, or_false, not_or]
        rcases hx with rfl | rfl | hx
        · exact ⟨fun h0 => hd.wl h0.symm, fun h0 => hd.tl h0.symm⟩
        · exact ⟨fun h0 => hd.ws h0.symm, fun h0 => hd.ts h0.symm⟩
        · exact ⟨(h7.d x hx).2.1, (h7.d x hx).1⟩
      have hc8 := hc7.keep kp8 (nwt _ (by simp)) (fun x hx => nwt x (by simp [hx]))
      have h8 : Sat m8 B la7 (gStepP s7) := ⟨ht8, hw8, h7.l.keep kp8 (nwt _ (by simp)), ⟨c7, hc8.so, hc8.p, hc8.t, hc8.w, hc8.l, hc8.la, hc8.own, ⟨hc8.rep.act, hc8.rep.phase, hc8.rep.inc, hc8.rep.alive, hc8.rep.count, hc8.rep.conf, hc8.rep.rest, hc8.rep.since⟩⟩, h7.d⟩
      have kp8f : Kp (foot B la7) m7 m8 := kp8.mono (by simp [foot])
      have kf8 : Kp (footS B la aa) m m8 := kf7.step kp8f ok sub7
      have hpa8 := hpa7.keep kp8f dis7
      have bn8 := bn7.keep kp8f nb7
      have lt8 := bn8.lt ok8
      have hlp8 := hpa8.lt ok8

      have go : ∀ {la9 : Option Addr} {m9 : Mem}, Kp (foot B la7) m8 m9 → InS (blkOf la7) m8 (blkOf la9) → m9.Ok → (Kp (footS B la aa) m m9 ∧ InS (blkOf la) m (blkOf la9) ∧ PaAt m9 B.p aa2 ps7 ∧ (∀ x ∈ B.p :: blkOf aa2, x ∉ foot B la9) ∧ BlkN m9 b1 7 ∧ b1 ∉ foot B la9) := by
        intro la9 m9 kp9 in9 ok9
        refine ⟨kf8.step kp9 ok sub7, in7.trans in9 kf8.top, hpa8.keep kp9 dis7, fun x hx => foot_out in9 (dis7 x hx) (hlp8 x hx), bn8.keep kp9 nb7, foot_out in9 nb7 lt8⟩
      have gv : ∀ (a : Option Addr) (nn : Nat) (x4 : ByteArray) (e1 e2 : Int) (bl : Bool) (x5 x6 : Int) (la9 : Option Addr) (s9 : St) (m9 : Mem), m9.Ok → Kp (foot B la7) m8 m9 → InS (blkOf la7) m8 (blkOf la9) → Sat m9 B la9 s9 → (∀ x ∈ blkOf a, x ∉ foot B la9 ∧ x ∉ B.p :: blkOf aa2 ∧ x ≠ b1) → (∀ m', m'.Ok → Kp (footS B la aa) m m' → InS (footS B la aa) m (footS B la9 aa2) → (∀ x ∈ blkOf a, x ∉ footS B la9 aa2) → SolAt m' B la9 aa2 s9 → Kp [b1] m9 m' →
            K (.agg #[(.int .i64 e1), (.int .i64 e2), (.bool bl), (.slice a nn nn), (.string x4), (.int .i64 x5), (.int .i64 x6)]) m') → ∀ Kt : Exit → Fr → Mem → Prop, (∀ m', (s11_1r (callOK Tryz.prog W0) B.s b1 K m') → Kt .ret [(0, ptr B.s 0), (4, ptr b1 0)] m') →
          stL m9 b1 0 [(.int .i64 e1), (.int .i64 e2), (.bool bl), (.slice a nn nn), (.string x4), (.int .i64 x5), (.int .i64 x6)] fun m_49 => Kt .ret [(0, ptr B.s 0), (4, ptr b1 0)] m_49 := by
        intro a nn x4 e1 e2 bl x5 x6 la9 s9 m9 ok9 kp9 in9 h9 ha hK9 Kt hKt
        obtain ⟨g1, g2, g3, g4, g5, g6⟩ := go kp9 in9 ok9
        refine stL_put ok9 g5 (by simp) (by intro v hv; simp at hv; rcases hv with rfl | rfl | rfl | rfl | rfl | rfl | rfl <;> rfl) (by simp) ?_
        intro m10 ok10 kp10 row10 bn10
        refine hKt m10 ?_
        unfold s11_1r
        refine rdl7 row10 ?_
        refine hK9 m10 ok10 (wr1 g1 kp10) (inF g2) ?_ ⟨h9.keep kp10 ?_, ⟨_, g3.keep kp10 ?_⟩, g4⟩ kp10
        · intro x hx h0
          simp only [footS, List.mem_append] at h0
          rcases h0 with h0 | h0
          · exact (ha x hx).1 h0
          · exact (ha x hx).2.1 h0
        · intro x hx h0; simp at h0; subst h0; exact g6 hx
        · intro x hx h0
          simp at h0; subst h0
          exact nb2 hx
      refine ifB_ge (fun hge => ?_) (fun hge => ?_)
      · rw [if_pos hge] at hr7
        have rc := rc hge
        have rn := rn hge
        have rl := rl hge
        obtain ⟨cf, hcf⟩ : ∃ cf : Nat, (gProp s7.w s7.t).2.2 = cf := ⟨(gProp s7.w s7.t).2.2.toNat, by omega⟩
        have hcf2 : (gProp s7.w s7.t).2.2.toNat = cf := by rw [hcf]; simp
        rw [hcf2] at rc rn rl hr7
        rw [hcf]
        refine conflict_spec hd h8 rc ?_
        intro la9 m9 ok9 kp9 in9 h9
        obtain ⟨g1, g2, g3, g4, g5, g6⟩ := go kp9 in9 ok9
        refine ⟨_, rfl, ?_⟩
        generalize gConfl (gStepP s7) cf = cc at hr7 rn rl h9 ⊢
        obtain ⟨s9, bl⟩ := cc
        dsimp only at hr7 rn rl h9 ⊢
        refine ifB_not (fun hf => ?_) (fun hf => ?_)
        · rw [if_neg (by rw [hf]; simp)] at hr7
          subst hr7
          refine refuted_spec hd h9 (rl hf) ?_
          intro s m10 ok10 kp10 hs h10
          refine ⟨_, _, _, _, _, _, _, _, _, rfl, ?_⟩
          have kp810 : Kp (foot B la7) m8 m10 := kp9.step kp10 ok8 (foot_sub in9)
          refine gv none 0 s 0 0 false _ _ la9 _ m10 ok10 kp810 in9 h10 (by simp [blkOf]) ?_ _ (fun m' h => by rw [e11_1r]; exact h)
          intro m11 ok11 kf11 in11 ha11 sol11 kp11
          exact hK la9 aa2 none 0 s m11 ok11 kf11 in11 (InS.nil _ _) ha11 sol11 (ModelV.nil _) hs
        · rw [if_pos hf] at hr7
          obtain ⟨n1, n2⟩ := rn hf
          exact ⟨(n, la9, s9), rfl, ⟨by dsimp only; omega, n1, hr7, ok9, g1, g2, h9, ⟨_, g3⟩, g4, g5, g6⟩, by dsimp only; omega⟩
      · rw [if_neg (by omega)] at hr7
        have rd := rd hge
        obtain ⟨c8, hc8'⟩ := h8.s
        refine ⟨_, hc8'.so.t, ?_⟩
        rw [hc8'.t]
        refine len_spec h8.t ⟨_, rfl, ?_⟩
        refine ifB_eq (fun h12 => ?_) (fun h12 => ?_)
        · rw [if_pos (by omega)] at hr7
          subst hr7
          refine satisfied_spec hd h8 ?_
          intro a m9 ok9 kp9 in9 hne9 own9 h9
          refine ⟨_, _, _, _, _, _, _, _, _, rfl, ?_⟩
          have afr : ∀ x ∈ blkOf a, m8.top ≤ x := fun x hx => (in9 x hx).resolve_left (by simp)
          have hlt8 := h8.lt ok8
          have mlen : (gModelA (gStepP s7).t 12 1).length = 12 := own9.len.symm
          refine gv a 12 (ByteArray.mk #[]) 0 0 true _ _ la7 _ m9 ok9 kp9 (InS.self _ _) h9 ?_ ?_ _ (fun m' h => by rw [e11_1r]; exact h)
          · intro x hx
            have := afr x hx
            refine ⟨fun h0 => ?_, fun h0 => ?_, ?_⟩
            · have := hlt8 x h0; omega
            · have := hlp8 x h0; omega
            · omega
          intro m10 ok10 kf10 in10 ha10 sol10 kp10
          have ntop := kf8.top
          refine hK la7 aa2 a 12 _ m10 ok10 kf10 in10 ?_ ha10 sol10 ?_ (by simp [bts, ansOf])
          · intro x hx
            have := afr x hx
            exact .inr (by omega)
          · refine ⟨own9.keep kp10 ?_, ?_⟩
            · intro x hx h0
              simp at h0
              have := afr x hx
              omega
            · constructor
              · intro h0; exact absurd h0 hne9
              · intro h0
                have : (gModelA (gStepP s7).t 12 1) = [] := h0
                rw [this] at mlen
                simp at mlen
        · rw [if_neg (by omega)] at hr7
          obtain ⟨d1, d2, d3, d4, d5⟩ := rd (by omega)
          refine pick_spec h8 d1 ⟨_, rfl, ?_⟩
          refine ⟨_, hc8'.so.t, ?_⟩
          rw [hc8'.t]
          refine decide_spec h8.t d2 d3 ?_
          intro m9 ok9 kp9 ht9
          refine ⟨_, rfl, ?_⟩
          have n2 : ∀ x ∈ blkOf la7, x ∉ [B.t] := fun x hx => by simpa using (h8.d x hx).1
          have hc9 := hc8'.keep kp9 (by simpa using fun h => hd.ts h.symm) n2
          have h9 : Sat m9 B la7 (gDec (gStepP s7)) := ⟨ht9, h8.w.keep kp9 (by simpa using fun h => hd.tw h.symm), h8.l.keep kp9 (by simpa using fun h => hd.tl h.symm), ⟨c8, hc9.so, hc9.p, hc9.t, hc9.w, hc9.l, hc9.la, hc9.own, ⟨hc9.rep.act, hc9.rep.phase, hc9.rep.inc, hc9.rep.alive, hc9.rep.count, hc9.rep.conf, hc9.rep.rest, hc9.rep.since⟩⟩, h8.d⟩
          obtain ⟨g1, g2, g3, g4, g5, g6⟩ := go (la9 := la7) (kp9.mono (by simp [foot])) (InS.self _ _) ok9
          exact ⟨(n, la7, gDec (gStepP s7)), rfl, ⟨by dsimp only; omega, d4, hr7, ok9, g1, g2, h9, ⟨_, g3⟩, g4, g5, g6⟩, by dsimp only; omega⟩
end Go.Proofs.Qxb6500974aGreat
