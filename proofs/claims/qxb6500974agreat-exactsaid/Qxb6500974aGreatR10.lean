import Derived.Test.Qxb6500974aGreatR9
set_option linter.all false
set_option linter.unusedSimpArgs false
set_option linter.unusedVariables false
namespace Go.Proofs.Qxb6500974aGreat
open Go.Eng
variable {W0 : World}

theorem own_freeze {α : Type} {E : Elt α} {S : List Nat} {m0 m : Mem} {a : Option Addr} {n c : Nat} {L : List α} (ok0 : m0.Ok) (ok : m.Ok) (kp : Kp S m0 m) (own : E.own m a n c L) (hin : InS S m0 (blkOf a)) :
    ∃ m', m'.Le m ∧ m'.top = m.top ∧ m'.Ok ∧ Kp S m0 m' ∧ Kp (blkOf a) m m' ∧ E.fz m' a n L := by
  rcases own.ice with ⟨b, ha, hfz⟩ | ⟨ha, hfl, hn0⟩
  · have hb := hin b (by simp [ha, blkOf])
    have k45 : Kp [b] m (m.ice b) := Kp.ice1 b
    refine ⟨m.ice b, Mem.ice_le ok b, rfl, ok.ice b, kp.ice ok0 hb, ?_, hfz⟩
    simpa [ha, blkOf] using k45
  · refine ⟨m, Mem.Le.rfl' ok, rfl, ok, kp, Kp.refl _ _, ?_⟩
    rw [hfl, hn0, ha]
    exact Elt.fz.nil _
theorem copyFz_spec {a : Option Addr} {n c : Nat} {l : List Int} {K : Value → Mem → Prop} {m : Mem} (h : SlI m a n l) (hl : l.length < 2 ^ 44)
    (hK : ∀ a' m', m'.Ok → Kp [] m m' → FzI m' a' n l → (l = [] ↔ a' = none) → K (.slice a' n n) m') :
    callOK Tryz.prog W0 52 [.slice a n c] K m := by
  refine callOK_ice fun ok => copyInts_spec h hl ?_
  intro a' m' ok' kp' own' in' hnil _
  obtain ⟨m2, h1, h2, h3, h4, h5, h6⟩ := own_freeze ok ok' kp' own' in'
  exact ⟨m2, h1, h2, fun _ => hK a' m2 h3 h4 h6 hnil⟩

theorem allFalse_spec {b tr wr : Nat} {t : Tr} {s : Ln} {l : List Int} {a : Option Addr} {n cc : Nat} {K : Value → Mem → Prop} {m : Mem} (h : LnAt m b tr wr s) (ht : TrAt m tr t) (hl : FzI m a n l) (hlen : l.length ≤ 12)
    (hall : ∀ x ∈ l, t.value x = -1) (hK : K (.bool true) m) : callOK Tryz.prog W0 104 [ptr b 0, .slice a n cc] K m := by
  refine call104 ?_
  obtain ⟨c, h1, h2, h3, h4⟩ := h
  unfold s104
  have hn := hl.len
  refine loop104_1 (γ := Nat) (fun k t4 i m' => m' = m ∧ i = k ∧ k ≤ l.length) (fun k _ _ => l.length - k) 0 ⟨rfl, rfl, by omega⟩ ?_
  rintro k t4 i m' ⟨rfl, rfl, hk⟩
  unfold s104_1
  refine ifB_lt (fun hlt => ?_) (fun hlt => ?_)
  · have hkl : k < l.length := by omega
    refine ⟨_, h1.t, ?_⟩
    refine hl.sl.get (by omega) (by omega) fun _ _ _ => ?_
    simp only [Int.toNat_natCast]
    rw [h2]
    refine value_spec ht ⟨_, rfl, ?_⟩
    rw [hall _ (mem_getD hkl 0)]
    with_reducible refine ifB_ne (fun h0 => absurd rfl h0) (fun _ => ?_)
    exact ⟨k + 1, _, _, rfl, ⟨rfl, wrapS k (by omega), by omega⟩, by omega⟩
  · rw [e104_1x0]
    exact hK

def gClimb (w : Wt) (t : Tr) : Nat → Ln → Ln × Int
  | 0, s => (s, 0)
  | n + 1, s =>
    if s.seen (t.at n).natAbs = true then
      if t.levOf (goVar (t.at n)) = s.lv then
        if s.opn - 1 = 0 then ({ s with opn := s.opn - 1 }, t.at n)
        else if liveB w (t.rsnOf (goVar (t.at n))) = true then
          (if (gMarkAll t { s with opn := s.opn - 1 } (nf (w (t.rsnOf (goVar (t.at n))).toNat).lits)).2 = true then gClimb w t n (gMarkAll t { s with opn := s.opn - 1 } (nf (w (t.rsnOf (goVar (t.at n))).toNat).lits)).1
           else ((gMarkAll t { s with opn := s.opn - 1 } (nf (w (t.rsnOf (goVar (t.at n))).toNat).lits)).1, 0))
        else ({ s with opn := s.opn - 1 }, 0)
      else gClimb w t n s
    else gClimb w t n s
theorem WAt.nfgood {m : Mem} {b t : Nat} {w : Wt} (h : WAt m b t w) (id : Nat) : (∀ x ∈ nf (w id).lits, goGoodLit x = true) ∧ (nf (w id).lits).length ≤ 12 := by
  obtain ⟨g, _⟩ := h
  have := nf_NF (g.cl id).good
  exact ⟨this.1, this.len⟩
theorem climb_spec {b tr wr : Nat} {t : Tr} {w : Wt} {s : Ln} {K : Value → Mem → Prop} {m : Mem} (h : LnAt m b tr wr s) (ht : TrAt m tr t) (hw : WAt m wr tr w) (hbt : b ≠ tr) (hbw : b ≠ wr) (hb : 0 ≤ s.opn ∧ s.opn ≤ 12)
    (hK : ∀ m', m'.Ok → Kp [b] m m' → LnAt m' b tr wr (gClimb w t t.es.length s).1 → K (.int .i64 (gClimb w t t.es.length s).2) m') : callOK Tryz.prog W0 108 [ptr b 0] K m := by
  refine callOK_ok fun ok => call108 ?_
  have nt : tr ∉ [b] := by simpa using fun h => hbt h.symm
  have nw : wr ∉ [b] := by simpa using fun h => hbw h.symm
  have hg := ht.good
  have hl12 := hg.len
  unfold s108
  have h0 := h
  obtain ⟨c, h1, h2, h3, h4⟩ := h
  refine ⟨_, h1.t, ?_⟩
  rw [h2]
  refine len_spec ht ⟨_, rfl, ?_⟩
  obtain ⟨r, hr⟩ : ∃ r, gClimb w t t.es.length s = r := ⟨_, rfl⟩
  rw [hr] at hK
  refine loop108_1 (γ := Nat × Ln) (fun g t2 i m' => i = (g.1 : Int) - 1 ∧ g.1 ≤ t.es.length ∧ m'.Ok ∧ Kp [b] m m' ∧ LnAt m' b tr wr g.2 ∧ -(t.es.length - g.1 : Nat) ≤ g.2.opn ∧ g.2.opn ≤ 12 + 12 * (t.es.length - g.1 : Nat) ∧ gClimb w t g.1 g.2 = r) (fun g _ _ => g.1) (t.es.length, s)
    ⟨?_, by dsimp only; omega, ok, Kp.refl _ _, h0, by dsimp only; omega, by dsimp only; omega, hr⟩ ?_
  · dsimp only; rw [wrap_i64 (by omega) (by omega)]
  rintro ⟨k, s1⟩ t2 i m1 ⟨rfl, hk, ok1, kp1, hl1, hb1, hb2, hj⟩
  dsimp only at hk hl1 hb1 hb2 hj ⊢
  have hl1' := hl1
  obtain ⟨c1, p1, p2, p3, p4⟩ := hl1
  have ht1 := ht.keep kp1 nt
  have hw1 := hw.keep kp1 nw
  unfold s108_1
  refine ifB_ge (fun hge => ?_) (fun hge => ?_)
  · obtain ⟨n, rfl⟩ : ∃ n, k = n + 1 := ⟨k - 1, by omega⟩
    simp only [gClimb] at hj
    have hn : n < t.es.length := by omega
    have gp := at_good hg hn
    have ha := good_abs gp
    have hi : ((n + 1 : Nat) : Int) - 1 = (n : Int) := by omega
    rw [hi]
    have hwn : IntKind.wrap .i64 ((n : Int) - 1) = (n : Int) - 1 := wrap_i64 (by omega) (by omega)
    rw [hwn]
    refine ⟨_, p1.t, ?_⟩
    rw [p2]
    refine at_spec ht1 ⟨_, rfl, ?_⟩
    refine ⟨_, p1.seen, ?_⟩
    have hbit : ((bAnd .u16 c1.seen (goBit16 (goVar (t.at n)))) != 0) = s1.seen (t.at n).natAbs := by
      rw [ha.2.2.2.2, hasb16 p4.seen.1 (by omega), p4.seen.2 _ (by omega)]
    dsimp only
    rw [hbit]
    generalize t.at n = p at hj gp ha ⊢
    refine ifB_of (fun hs => ?_) (fun hs => ?_)
    · rw [if_pos hs] at hj
      refine ⟨_, p1.t, ?_⟩
      rw [p2]
      refine levelOf_spec ht1 ⟨_, rfl, ?_⟩
      refine ⟨_, p1.lv, ?_⟩
      dsimp only
      rw [p4.lv]
      refine ifB_eq (fun hlv => ?_) (fun hlv => ?_)
      · rw [if_pos hlv] at hj
        refine ⟨_, p1.open_, ?_⟩
        refine p1.st_open_ ok1 ?_
        intro m2 ok2 kp2 b2
        have hwo : IntKind.wrap .i64 (c1.open_ - 1) = s1.opn - 1 := by rw [p4.opn, wrap_i64 (by omega) (by omega)]
        rw [hwo] at b2
        have hl2 : LnAt m2 b tr wr { s1 with opn := s1.opn - 1 } := ⟨_, b2, p2, p3, ⟨p4.seen, p4.pos, p4.neg, rfl, p4.lv⟩⟩
        have kk2 := kp1.trans kp2
        refine ⟨_, b2.open_, ?_⟩
        dsimp only
        refine ifB_eq (fun ho => ?_) (fun ho => ?_)
        · rw [if_pos ho] at hj
          rw [e108_1r]; subst hj
          exact hK m2 ok2 kk2 hl2
        · rw [if_neg ho] at hj
          refine ⟨_, b2.t, ?_⟩
          dsimp only
          rw [p2]
          refine reason_spec (ht.keep kk2 nt) ⟨_, rfl, ?_⟩
          refine ⟨_, b2.w, ?_⟩
          dsimp only
          rw [p3]
          refine clause_spec (hw.keep kk2 nw) (fun hdead => ?_) (fun hlive a n3 c3 m3 ok3 kp3 fz3 => ?_)
          · rw [if_neg (by rw [hdead]; simp)] at hj
            refine ⟨_, _, _, _, rfl, ?_⟩
            with_reducible refine ifB_ne (fun _ => ?_) (fun h0 => by cases h0)
            rw [e108_1r]; subst hj
            exact hK m2 ok2 kk2 hl2
          · rw [if_pos hlive] at hj
            refine ⟨_, _, _, _, rfl, ?_⟩
            with_reducible refine ifB_ne (fun h0 => absurd rfl h0) (fun _ => ?_)
            have hq := hw.nfgood (t.rsnOf (goVar p)).toNat
            generalize nf (w (t.rsnOf (goVar p)).toNat).lits = q at hj fz3 hq ⊢
            have kk3 : Kp [b] m m3 := kk2.trans kp3.of_nil
            have hl3 := hl2.keep kp3 (by simp)
            refine markAll_spec hl3 (ht.keep kk3 nt) hbt fz3 hq.1 hq.2 (by dsimp only; omega) ?_
            intro m4 ok4 kp4 hl4
            have ho4 := gMarkAll_opn t q { s1 with opn := s1.opn - 1 }
            generalize gMarkAll t { s1 with opn := s1.opn - 1 } q = gm at hj hl4 ho4 ⊢
            obtain ⟨s4, r4⟩ := gm
            dsimp only at hj hl4 ho4 ⊢
            refine ⟨_, rfl, ?_⟩
            refine ifB_not (fun hf => ?_) (fun hf => ?_)
            · rw [if_neg (by rw [hf]; simp)] at hj
              rw [e108_1r]; subst hj
              exact hK m4 ok4 (kk3.trans kp4) hl4
            · rw [if_pos hf] at hj
              exact ⟨(n, s4), _, _, rfl, ⟨rfl, by dsimp only; omega, ok4, kk3.trans kp4, hl4, by dsimp only; omega, by dsimp only; omega, hj⟩, by dsimp only; omega⟩
      · rw [if_neg hlv] at hj
        exact ⟨(n, s1), _, _, rfl, ⟨rfl, by dsimp only; omega, ok1, kp1, hl1', by dsimp only; omega, by dsimp only; omega, hj⟩, by dsimp only; omega⟩
    · rw [if_neg (by rw [hs]; simp)] at hj
      exact ⟨(n, s1), _, _, rfl, ⟨rfl, by dsimp only; omega, ok1, kp1, hl1', by dsimp only; omega, by dsimp only; omega, hj⟩, by dsimp only; omega⟩
  · have : k = 0 := by omega
    subst this
    simp only [gClimb] at hj
    rw [e108_1x0]; subst hj
    exact hK m1 ok1 kp1 hl1'

def gSpare (w : Wt) (t : Tr) (s : Ln) (q : Int) : Bool :=
  liveB w (t.rsnOf (goVar q)) && (nf (w (t.rsnOf (goVar q)).toNat).lits).all fun x => decide (x = -q) || (s.has x || decide (t.levOf (goVar x) = 0))
theorem spare_spec {b tr wr : Nat} {t : Tr} {w : Wt} {s : Ln} {q : Int} {K : Value → Mem → Prop} {m : Mem} (h : LnAt m b tr wr s) (ht : TrAt m tr t) (hw : WAt m wr tr w) (hq : goGoodLit q = true)
    (hK : ∀ m', m'.Ok → Kp [] m m' → K (.bool (gSpare w t s q)) m') : callOK Tryz.prog W0 143 [ptr b 0, .int .i64 q] K m := by
  refine callOK_ok fun ok => call143 ?_
  have h0 := h
  obtain ⟨c, h1, h2, h3, h4⟩ := h
  have hqa := good_abs hq
  have hwp : IntKind.wrap .i64 (0 - q) = -q := wrap_neg hqa.2.2.2.1
  unfold s143
  unfold gSpare at hK
  refine ⟨_, h1.t, ?_⟩
  rw [h2]
  refine reason_spec ht ⟨_, rfl, ?_⟩
  refine ⟨_, h1.w, ?_⟩
  rw [h3]
  refine clause_spec hw (fun hdead => ?_) (fun hlive a n3 c3 m3 ok3 kp3 fz3 => ?_)
  · rw [hdead, Bool.false_and] at hK
    refine ⟨_, _, _, _, rfl, ?_⟩
    with_reducible refine ifB_ne (fun _ => ?_) (fun h0 => by cases h0)
    exact hK m ok (Kp.refl _ _)
  · rw [hlive, Bool.true_and] at hK
    refine ⟨_, _, _, _, rfl, ?_⟩
    with_reducible refine ifB_ne (fun h0 => absurd rfl h0) (fun _ => ?_)
    have hq := hw.nfgood (t.rsnOf (goVar q)).toNat
    generalize nf (w (t.rsnOf (goVar q)).toNat).lits = l at hK fz3 hq ⊢
    have h5 := h0.keep kp3 (by simp)
    have ht3 := ht.keep kp3 (by simp)
    have h15 := h1.keep kp3 (by simp)
    have hn := fz3.len
    refine loop143_1 (γ := Nat) (fun k t4 i m' => m' = m3 ∧ i = k ∧ k ≤ l.length ∧ ((l.drop k).all fun x => decide (x = -q) || (s.has x || decide (t.levOf (goVar x) = 0))) = l.all fun x => decide (x = -q) || (s.has x || decide (t.levOf (goVar x) = 0))) (fun k _ _ => l.length - k) 0 ⟨rfl, rfl, by omega, rfl⟩ ?_
    rintro k t4 i m' ⟨rfl, rfl, hk, hj⟩
    unfold s143_1
    rw [hwp]
    refine ifB_lt (fun hlt => ?_) (fun hlt => ?_)
    · have hkl : k < l.length := by omega
      rw [drop_cons hkl 0, List.all_cons] at hj
      refine fz3.sl.get (by omega) (by omega) fun _ _ _ => ?_
      simp only [Int.toNat_natCast]
      have gx : goGoodLit (l.getD k 0) = true := hq.1 _ (mem_getD hkl 0)
      generalize l.getD k 0 = x at hj gx ⊢
      have next : ((decide (x = -q) || (s.has x || decide (t.levOf (goVar x) = 0))) = true) → ((l.drop (k + 1)).all fun x => decide (x = -q) || (s.has x || decide (t.levOf (goVar x) = 0))) = l.all fun x => decide (x = -q) || (s.has x || decide (t.levOf (goVar x) = 0)) := by
        intro hc; rw [hc, Bool.true_and] at hj; exact hj
      refine ifB_ne (fun hne => ?_) (fun hne => ?_)
      · refine lholds_spec h5 gx ⟨_, rfl, ?_⟩
        refine ifB_not (fun hf => ?_) (fun hf => ?_)
        · refine ⟨_, h15.t, ?_⟩
          dsimp only
          rw [h2]
          refine levelOf_spec ht3 ⟨_, rfl, ?_⟩
          refine ifB_ne (fun hz => ?_) (fun hz => ?_)
          · rw [e143_1r]
            have : (decide (x = -q) || (s.has x || decide (t.levOf (goVar x) = 0))) = false := by simp [hne, hf, hz]
            rw [this, Bool.false_and] at hj
            rw [← hj] at hK
            exact hK m' ok3 kp3
          · exact ⟨k + 1, _, _, rfl, ⟨rfl, wrapS k (by omega), by omega, next (by simp [hz])⟩, by omega⟩
        · exact ⟨k + 1, _, _, rfl, ⟨rfl, wrapS k (by omega), by omega, next (by simp [hf])⟩, by omega⟩
      · exact ⟨k + 1, _, _, rfl, ⟨rfl, wrapS k (by omega), by omega, next (by simp [hne])⟩, by omega⟩
    · rw [e143_1x0]
      have : k = l.length := by omega
      subst this
      rw [List.drop_length] at hj
      simp only [List.all_nil] at hj
      rw [← hj] at hK
      exact hK m' ok3 kp3

theorem stl4 {m : Mem} {b : Nat} {x0 x1 x2 : Int} {a : Option Addr} {n c : Nat} {K : Value → Mem → Prop} (ok : m.Ok) (h : BlkN m b 4)
    (hK : ∀ m', m'.Ok → Kp [b] m m' → K (.agg #[(.int .i64 x0), (.slice a n c), (.int .i64 x1), (.int .i64 x2)]) m') :
    stL m b 0 [(.int .i64 x0), (.slice a n c), (.int .i64 x1), (.int .i64 x2)] fun m1 =>
      ldInt .i64 m1 b 0 fun y0 => ldSl m1 b 1 fun a' n' c' => ldInt .i64 m1 b 2 fun y1 => ldInt .i64 m1 b 3 fun y2 => K (.agg #[(.int .i64 y0), (.slice a' n' c'), (.int .i64 y1), (.int .i64 y2)]) m1 := by
  refine stL_put ok h (by simp) (by intro v hv; simp at hv; rcases hv with rfl | rfl | rfl | rfl <;> rfl) (by simp) ?_
  intro m' ok' kp' row' _
  obtain ⟨r0, r1, r2, r3, _⟩ := row'
  exact ⟨_, r0, _, _, _, r1, _, r2, _, r3, hK m' ok' kp'⟩
theorem zero123 : zeroBlk Tryz.prog 123 = Blk.ofList [(.int .i64 0), (.slice none 0 0), (.int .i64 0), (.int .i64 0)] := by kernel_rfl
theorem refuse_spec {b tr wr : Nat} {s : Ln} {e : Int} {K : Value → Mem → Prop} {m : Mem} (h : LnAt m b tr wr s)
    (hK : ∀ m', m'.Ok → Kp [b] m m' → LnAt m' b tr wr Ln.clean → K (.agg #[(.int .i64 e), (.slice none 0 0), (.int .i64 0), (.int .i64 0)]) m') : callOK Tryz.prog W0 106 [ptr b 0, .int .i64 e] K m := by
  refine callOK_ok fun ok => call106 ?_
  have hlt := h.lt ok
  unfold s106
  rw [zero123]
  intro b1 hb1
  have hk1 := Kp.new (S := []) ok hb1 (Blk.ofList [(.int .i64 0), (.slice none 0 0), (.int .i64 0), (.int .i64 0)])
  have bn1 : BlkN (m.new b1 (Blk.ofList [(.int .i64 0), (.slice none 0 0), (.int .i64 0), (.int .i64 0)])) b1 4 := BlkN.new b1 (by simp)
  have ok1 := ok.new hb1 (Blk.ofList [(.int .i64 0), (.slice none 0 0), (.int .i64 0), (.int .i64 0)])
  generalize m.new b1 (Blk.ofList [(.int .i64 0), (.slice none 0 0), (.int .i64 0), (.int .i64 0)]) = m1 at hk1 bn1 ok1
  refine wipe_spec (h.keep hk1 (by simp)) ?_
  intro m2 ok2 kp2 h2
  refine ⟨rfl, ?_⟩
  refine stl4 ok2 (bn1.keep kp2 (by simp; omega)) ?_
  intro m3 ok3 kp3
  exact hK m3 ok3 (((hk1.of_nil).trans kp2).step kp3 ok (fun b' hb' => .inr (by simp at hb'; omega))) (h2.keep kp3 (by simp; omega))
def gShrinkA (w : Wt) (t : Tr) (s : Ln) (a : Int) : Nat → Nat → List Int → Int → List Int × Int
  | 0, _, out, back => (out, back)
  | n + 1, v, out, back =>
    if gLitOf s v = a then gShrinkA w t s a n (v + 1) (out ++ [gLitOf s v]) back
    else if gLitOf s v ≠ 0 then
      (if gSpare w t s (gLitOf s v) = true then gShrinkA w t s a n (v + 1) out back
       else gShrinkA w t s a n (v + 1) (out ++ [gLitOf s v]) (if t.levOf v > back then t.levOf v else back))
    else gShrinkA w t s a n (v + 1) out back
def gShrink (w : Wt) (t : Tr) (s : Ln) (a : Int) : List Int × Int := gShrinkA w t s a 12 1 [] 0
theorem gLitOf_good {s : Ln} {v : Nat} (hv : 1 ≤ v ∧ v ≤ 12) (h : gLitOf s v ≠ 0) : goGoodLit (gLitOf s v) = true := by
  unfold gLitOf at h ⊢
  split
  · simp [goGoodLit]; omega
  · split
    · simp [goGoodLit]; omega
    · rename_i h1 h2; rw [if_neg h1, if_neg h2] at h; exact absurd rfl h
theorem mk_own {m : Mem} {b c : Nat} : OwnI (m.new b { wr := true, cell := rowsOf [(.int .i64 0)] c }) (some ⟨b, 0, none⟩) 0 c [] := by
  refine ⟨rfl, [], ⟨rfl, by omega, .inr ⟨b, _, rfl, Mem.new_at _ _ _, rfl, by simp, ?_⟩⟩, trivial⟩
  intro i hi
  have : EI.sz = 1 := rfl
  rw [this, Nat.mul_one] at hi
  simp [rowsOf, hi, Nat.mod_one]
theorem shrink_spec {b tr wr : Nat} {t : Tr} {w : Wt} {s : Ln} {a : Int} {K : Value → Mem → Prop} {m : Mem} (h : LnAt m b tr wr s) (ht : TrAt m tr t) (hw : WAt m wr tr w)
    (hK : ∀ x m', m'.Ok → Kp [] m m' → FzI m' x (gShrink w t s a).1.length (gShrink w t s a).1 → K (.agg #[(.int .i64 0), (.slice x (gShrink w t s a).1.length (gShrink w t s a).1.length), (.int .i64 a), (.int .i64 (gShrink w t s a).2)]) m') : callOK Tryz.prog W0 110 [ptr b 0, .int .i64 a] K m := by
  refine callOK_ok fun ok => call110 ?_
  have hlt := h.lt ok
  unfold s110
  rw [zero123]
  intro b1 hb1
  have hk1 := Kp.new (S := []) ok hb1 (Blk.ofList [(.int .i64 0), (.slice none 0 0), (.int .i64 0), (.int .i64 0)])
  have bn1 : BlkN (m.new b1 (Blk.ofList [(.int .i64 0), (.slice none 0 0), (.int .i64 0), (.int .i64 0)])) b1 4 := BlkN.new b1 (by simp)
  have ok1 := ok.new hb1 (Blk.ofList [(.int .i64 0), (.slice none 0 0), (.int .i64 0), (.int .i64 0)])
  generalize m.new b1 (Blk.ofList [(.int .i64 0), (.slice none 0 0), (.int .i64 0), (.int .i64 0)]) = m1 at hk1 bn1 ok1
  have lt1 := bn1.lt ok1
  refine ⟨by omega, by omega, by omega, by omega, ?_⟩
  intro b3 hb3
  have hk2 := Kp.new (S := []) ok1 hb3 { wr := true, cell := rowsOf [(.int .i64 0)] (Int.toNat 12) }
  have own2 : OwnI (m1.new b3 { wr := true, cell := rowsOf [(.int .i64 0)] (Int.toNat 12) }) (some ⟨b3, 0, none⟩) 0 12 [] := mk_own
  have ok2 := ok1.new hb3 { wr := true, cell := rowsOf [(.int .i64 0)] (Int.toNat 12) }
  generalize m1.new b3 { wr := true, cell := rowsOf [(.int .i64 0)] (Int.toNat 12) } = m2 at hk2 own2 ok2
  have kp2 := hk1.trans hk2
  have t1 := hk1.top
  have in0 : InS [] m (blkOf (some ⟨b3, 0, none⟩)) := by intro x hx; simp [blkOf] at hx; subst hx; exact .inr (by omega)
  have nb0 : b1 ∉ blkOf (some ⟨b3, 0, none⟩) := by simp [blkOf]; omega
  obtain ⟨r, hr⟩ : ∃ r, gShrink w t s a = r := ⟨_, rfl⟩
  rw [hr] at hK
  have hr2 : gShrinkA w t s a 12 1 [] 0 = r := hr
  refine loop110_1 (γ := Nat × List Int) (fun g la ln lc back v m' => v = ((13 - g.1 : Nat) : Int) ∧ g.1 ≤ 12 ∧ m'.Ok ∧ Kp [] m m' ∧ BlkN m' b1 4 ∧ OwnI m' la ln lc g.2 ∧ g.2.length + g.1 ≤ 12 ∧ InS [] m (blkOf la) ∧ b1 ∉ blkOf la ∧ gShrinkA w t s a g.1 (13 - g.1) g.2 back = r) (fun g _ _ _ _ _ => g.1) (12, [])
    ⟨rfl, by dsimp only; omega, ok2, kp2, bn1.keep hk2 (by simp), own2, by simp, in0, nb0, hr2⟩ ?_
  rintro ⟨k, out⟩ la ln lc back v m3 ⟨rfl, hk, ok3, kp3, bn3, own3, hol, in3, nb3, hj⟩
  dsimp only at hk own3 hol hj ⊢
  have h3 := h.keep kp3 (by simp)
  have ht3 := ht.keep kp3 (by simp)
  have hw3 := hw.keep kp3 (by simp)
  unfold s110_1
  refine ifB_le (fun hle => ?_) (fun hle => ?_)
  · obtain ⟨n, rfl⟩ : ∃ n, k = n + 1 := ⟨k - 1, by omega⟩
    obtain ⟨v, hv⟩ : ∃ v, 13 - (n + 1) = v := ⟨_, rfl⟩
    have hv2 : 13 - n = v + 1 := by omega
    rw [hv] at hj ⊢
    simp only [gShrinkA] at hj
    have hv12 : 1 ≤ v ∧ v ≤ 12 := by omega
    have hwv : IntKind.wrap .i64 ((v : Int) + 1) = ((13 - n : Nat) : Int) := by rw [wrap_i64 (by omega) (by omega)]; omega
    rw [hwv]
    refine litOf_spec h3 hv12 ⟨_, rfl, ?_⟩
    have gg := gLitOf_good (s := s) hv12
    have rep1 : ∀ x : Int, ∀ m', EI.rep m' [.int .i64 x] x := fun x m' => rfl
    have hsz : (4 * (ln + 1) + 1024) * 8 ≤ 2 ^ 48 := by have := own3.len; omega
    generalize gLitOf s v = q at hj gg ⊢
    refine ifB_eq (fun he => ?_) (fun he => ?_)
    · rw [if_pos he] at hj
      refine Elt.app1 (E := EI) ok3 own3 (rep1 q m3) rfl rfl (by omega) hsz ?_
      intro a4 c4 m4 ok4 kp4 own4 in4
      refine ⟨(n, out ++ [q]), _, _, _, _, _, rfl, ⟨rfl, by dsimp only; omega, ok4, ?_, bn3.keep kp4 nb3, own4, ?_, ?_, ?_, ?_⟩, by dsimp only; omega⟩
      · exact kp3.step kp4 ok (fun x hx => in3 x hx)
      · simp; omega
      · exact in3.trans in4 kp3.top
      · intro hx
        rcases in4 _ hx with h0 | h0
        · exact nb3 h0
        · have := bn3.lt ok3; omega
      · dsimp only; rw [hv2]; exact hj
    · rw [if_neg he] at hj
      refine ifB_ne (fun hz => ?_) (fun hz => ?_)
      · rw [if_pos hz] at hj
        refine spare_spec h3 ht3 hw3 (gg hz) ?_
        intro m4 ok4 kp4
        refine ⟨_, rfl, ?_⟩
        refine ifB_not (fun hf => ?_) (fun hf => ?_)
        · rw [if_neg (by rw [hf]; simp)] at hj
          refine Elt.app1 (E := EI) ok4 (own3.keep0 kp4) (rep1 q m4) rfl rfl (by omega) hsz ?_
          intro a5 c5 m5 ok5 kp5 own5 in5
          have kk4 := kp3.trans kp4
          have kk5 : Kp [] m m5 := kk4.step kp5 ok (fun x hx => in3 x hx)
          have ht5 := ht.keep kk5 (by simp)
          have h5 := h.keep kk5 (by simp)
          obtain ⟨c5', p1, p2, p3⟩ := h5
          refine ⟨_, p1.t, ?_⟩
          rw [p2]
          refine levelOf_spec ht5 ⟨_, rfl, ?_⟩
          have bn5 := (bn3.keep kp4 (by simp)).keep kp5 nb3
          have in5' := in3.trans in5 (kk4.top)
          have nb5 : b1 ∉ blkOf a5 := by
            intro hx
            rcases in5 _ hx with h0 | h0
            · exact nb3 h0
            · have := bn3.lt ok3; have := kp4.top; omega
          have fin : ∀ bk, gShrinkA w t s a n (v + 1) (out ++ [q]) bk = r → gShrinkA w t s a n (13 - n) (out ++ [q]) bk = r := fun bk h0 => by rw [hv2]; exact h0
          refine ifB_gt (fun hgt => ?_) (fun hgt => ?_)
          · rw [if_pos hgt] at hj
            exact ⟨(n, out ++ [q]), _, _, _, _, _, rfl, ⟨rfl, by dsimp only; omega, ok5, kk5, bn5, own5, by simp; omega, in5', nb5, fin _ hj⟩, by dsimp only; omega⟩
          · rw [if_neg (by omega)] at hj
            exact ⟨(n, out ++ [q]), _, _, _, _, _, rfl, ⟨rfl, by dsimp only; omega, ok5, kk5, bn5, own5, by simp; omega, in5', nb5, fin _ hj⟩, by dsimp only; omega⟩
        · rw [if_pos hf] at hj
          refine ⟨(n, out), _, _, _, _, _, rfl, ⟨rfl, by dsimp only; omega, ok4, kp3.trans kp4, bn3.keep kp4 (by simp), own3.keep0 kp4, by dsimp only; omega, in3, nb3, ?_⟩, by dsimp only; omega⟩
          dsimp only; rw [hv2]; exact hj
      · rw [if_neg (by simpa using hz)] at hj
        refine ⟨(n, out), _, _, _, _, _, rfl, ⟨rfl, by dsimp only; omega, ok3, kp3, bn3, own3, by dsimp only; omega, in3, nb3, ?_⟩, by dsimp only; omega⟩
        dsimp only; rw [hv2]; exact hj
  · have : k = 0 := by omega
    subst this
    simp only [gShrinkA] at hj
    rw [e110_1x0]
    subst hj
    unfold s110_1x0
    refine copyFz_spec own3.sl (by omega) ?_
    intro a4 m4 ok4 kp4 fz4 _
    refine ⟨_, _, _, rfl, ?_⟩
    refine stl4 ok4 (bn3.keep kp4 (by simp)) ?_
    intro m5 ok5 kp5
    have hlen := own3.len
    subst hlen
    exact hK a4 m5 ok5 ((kp3.trans kp4).step kp5 ok (fun b' hb' => .inr (by simp at hb'; omega))) (fz4.keep kp5)

theorem gClimb_good {w : Wt} {t : Tr} (hg : t.Good) : ∀ (n : Nat) (s : Ln), n ≤ t.es.length → (gClimb w t n s).2 = 0 ∨ goGoodLit (gClimb w t n s).2 = true
  | 0, s, _ => .inl rfl
  | n + 1, s, hn => by
    simp only [gClimb]
    split
    · split
      · split
        · exact .inr (at_good hg (by omega))
        · split
          · split
            · exact gClimb_good hg n _ (by omega)
            · exact .inl rfl
          · exact .inl rfl
      · exact gClimb_good hg n _ (by omega)
    · exact gClimb_good hg n _ (by omega)
structure Lrn where
  err : Int
  lits : List Int
  ast : Int
  back : Int
def gAnalyze (w : Wt) (t : Tr) (conf : Nat) : Lrn :=
  if t.dep = 0 then ⟨10, [], 0, 0⟩
  else if (gMarkAll t { Ln.clean with lv := t.dep } (nf (w conf).lits)).1.opn = 0 then ⟨10, [], 0, 0⟩
  else if (gClimb w t t.es.length (gMarkAll t { Ln.clean with lv := t.dep } (nf (w conf).lits)).1).2 = 0 then ⟨15, [], 0, 0⟩
  else
    ⟨0, (gShrink w t ((gClimb w t t.es.length (gMarkAll t { Ln.clean with lv := t.dep } (nf (w conf).lits)).1).1.put (-(gClimb w t t.es.length (gMarkAll t { Ln.clean with lv := t.dep } (nf (w conf).lits)).1).2)) (-(gClimb w t t.es.length (gMarkAll t { Ln.clean with lv := t.dep } (nf (w conf).lits)).1).2)).1,
      -(gClimb w t t.es.length (gMarkAll t { Ln.clean with lv := t.dep } (nf (w conf).lits)).1).2,
      (gShrink w t ((gClimb w t t.es.length (gMarkAll t { Ln.clean with lv := t.dep } (nf (w conf).lits)).1).1.put (-(gClimb w t t.es.length (gMarkAll t { Ln.clean with lv := t.dep } (nf (w conf).lits)).1).2)) (-(gClimb w t t.es.length (gMarkAll t { Ln.clean with lv := t.dep } (nf (w conf).lits)).1).2)).2⟩
theorem analyze_spec {b tr wr : Nat} {t : Tr} {w : Wt} {conf : Nat} {K : Value → Mem → Prop} {m : Mem} (h : LnAt m b tr wr Ln.clean) (ht : TrAt m tr t) (hw : WAt m wr tr w) (hbt : b ≠ tr) (hbw : b ≠ wr) (hlive : (w conf).st ≠ 0) (hall : ∀ x ∈ (w conf).lits, t.value x = -1)
    (hK : ∀ x m', m'.Ok → Kp [b] m m' → LnAt m' b tr wr Ln.clean → FzI m' x (gAnalyze w t conf).lits.length (gAnalyze w t conf).lits →
      K (.agg #[(.int .i64 (gAnalyze w t conf).err), (.slice x (gAnalyze w t conf).lits.length (gAnalyze w t conf).lits.length), (.int .i64 (gAnalyze w t conf).ast), (.int .i64 (gAnalyze w t conf).back)]) m') : callOK Tryz.prog W0 58 [ptr b 0, .int .i64 conf] K m := by
  refine callOK_ok fun ok => call58 ?_
  have hlt := h.lt ok
  have nt : tr ∉ [b] := by simpa using fun h => hbt h.symm
  have nw : wr ∉ [b] := by simpa using fun h => hbw h.symm
  have hg := ht.good
  unfold s58
  rw [zero123]
  intro b1 hb1
  have hk1 := Kp.new (S := [b]) ok hb1 (Blk.ofList [(.int .i64 0), (.slice none 0 0), (.int .i64 0), (.int .i64 0)])
  have bn1 : BlkN (m.new b1 (Blk.ofList [(.int .i64 0), (.slice none 0 0), (.int .i64 0), (.int .i64 0)])) b1 4 := BlkN.new b1 (by simp)
  have ok1 := ok.new hb1 (Blk.ofList [(.int .i64 0), (.slice none 0 0), (.int .i64 0), (.int .i64 0)])
  have hk1' := Kp.new (S := []) ok hb1 (Blk.ofList [(.int .i64 0), (.slice none 0 0), (.int .i64 0), (.int .i64 0)])
  generalize m.new b1 (Blk.ofList [(.int .i64 0), (.slice none 0 0), (.int .i64 0), (.int .i64 0)]) = m1 at hk1 bn1 ok1 hk1'
  have lt1 := bn1.lt ok1
  have n1 : b1 ∉ [b] := by simp; omega
  have nb : b ∉ [b1] := by simp; omega
  have h1 := h.keep hk1' (by simp)
  have wr1 : ∀ {m3 m4 : Mem}, Kp [b] m m3 → Kp [b1] m3 m4 → Kp [b] m m4 := fun h h' => h.step h' ok (fun b' hb' => .inr (by simp at hb'; omega))
  obtain ⟨c, p1, p2, p3, p4⟩ := h1
  refine ⟨_, p1.w, ?_⟩
  rw [p3]
  have hl : liveB w (conf : Int) = true := by simp [liveB, hlive]
  refine clause_spec (hw.keep hk1 nw) (fun hdead => by rw [hl] at hdead; cases hdead) (fun _ a n2 c2 m2 ok2 kp2 fz2 => ?_)
  refine ⟨_, _, _, _, rfl, ?_⟩
  with_reducible refine ifB_ne (fun h0 => absurd rfl h0) (fun _ => ?_)
  have kk2 : Kp [b] m m2 := hk1.trans kp2.of_nil
  have h2 : LnAt m2 b tr wr Ln.clean := (h.keep hk1' (by simp)).keep kp2 (by simp)
  have bn2 := bn1.keep kp2 (by simp)
  have ht2 := ht.keep kk2 nt
  have hq := hw.nfgood conf
  have hall2 : ∀ x ∈ nf (w conf).lits, t.value x = -1 := fun x hx => hall x (nfA_mem hx).1
  simp only [Int.toNat_natCast] at fz2
  unfold gAnalyze at hK
  generalize nf (w conf).lits = q at hK fz2 hq hall2 ⊢
  refine allFalse_spec h2 ht2 fz2 hq.2 hall2 ⟨_, rfl, ?_⟩
  with_reducible refine ifB_not (fun h0 => by cases h0) (fun _ => ?_)
  have h2' := h2
  obtain ⟨c2', q1, q2, q3, q4⟩ := h2'
  refine ⟨_, q1.t, ?_⟩
  rw [q2]
  refine level_spec ht2 ⟨_, rfl, ?_⟩
  refine q1.st_lv ok2 ?_
  intro m3 ok3 kp3 b3
  refine ⟨_, b3.lv, ?_⟩
  dsimp only
  have kk3 := kk2.trans kp3
  have h3 : LnAt m3 b tr wr { Ln.clean with lv := t.dep } := ⟨_, b3, q2, q3, ⟨q4.seen, q4.pos, q4.neg, q4.opn, rfl⟩⟩
  have bn3 := bn2.keep kp3 n1
  have bad : ∀ (s : Ln) (e : Int) (m4 : Mem), m4.Ok → Kp [b] m m4 → BlkN m4 b1 4 → LnAt m4 b tr wr s → (∀ x m', m'.Ok → Kp [b] m m' → LnAt m' b tr wr Ln.clean → FzI m' x 0 [] → K (.agg #[(.int .i64 e), (.slice x 0 0), (.int .i64 0), (.int .i64 0)]) m') →
      callOK Tryz.prog W0 106 [ptr b 0, .int .i64 e] (fun rm_28 m_28 => ∃ x_24 x_25a x_25l x_25c x_26 x_27, rm_28 = (.agg #[(.int .i64 x_24), (.slice x_25a x_25l x_25c), (.int .i64 x_26), (.int .i64 x_27)]) ∧
      stL m_28 b1 0 [(.int .i64 x_24), (.slice x_25a x_25l x_25c), (.int .i64 x_26), (.int .i64 x_27)] fun m_29 =>
      ldInt .i64 m_29 b1 0 fun x_30 => ldSl m_29 b1 1 fun l_31a l_31l l_31c => ldInt .i64 m_29 b1 2 fun x_32 => ldInt .i64 m_29 b1 3 fun x_33 =>
      K (.agg #[(.int .i64 x_30), (.slice l_31a l_31l l_31c), (.int .i64 x_32), (.int .i64 x_33)]) m_29) m4 := by
    intro s e m4 ok4 kp4 bn4 h4 hK4
    refine refuse_spec h4 ?_
    intro m5 ok5 kp5 h5
    refine ⟨_, _, _, _, _, _, rfl, ?_⟩
    refine stl4 ok5 (bn4.keep kp5 n1) ?_
    intro m6 ok6 kp6
    exact hK4 none m6 ok6 (wr1 (kp4.trans kp5) kp6) (h5.keep kp6 nb) (Elt.fz.nil _)
  refine ifB_eq (fun hd => ?_) (fun hd => ?_)
  · have hd' : t.dep = 0 := by omega
    rw [if_pos hd'] at hK
    exact bad _ _ m3 ok3 kk3 bn3 h3 hK
  · have hd' : ¬ t.dep = 0 := by omega
    rw [if_neg hd'] at hK
    have fz3 := fz2.keep kp3
    refine markAll_spec h3 (ht.keep kk3 nt) hbt fz3 hq.1 hq.2 (by simp [Ln.clean]) ?_
    intro m4 ok4 kp4 h4
    have ho := gMarkAll_opn t q { Ln.clean with lv := t.dep }
    generalize gMarkAll t { Ln.clean with lv := t.dep } q = gm at hK h4 ho ⊢
    obtain ⟨s4, r4⟩ := gm
    dsimp only [Ln.clean] at hK h4 ho ⊢
    have kk4 := kk3.trans kp4
    have bn4 := bn3.keep kp4 n1
    refine ⟨_, rfl, ?_⟩
    obtain ⟨c4, u1, u2, u3, u4⟩ := h4
    refine ⟨_, u1.open_, ?_⟩
    dsimp only
    rw [u4.opn]
    have h4 : LnAt m4 b tr wr s4 := ⟨c4, u1, u2, u3, u4⟩
    refine ifB_eq (fun he => ?_) (fun he => ?_)
    · rw [if_pos he] at hK
      exact bad _ _ m4 ok4 kk4 bn4 h4 hK
    · rw [if_neg he] at hK
      refine climb_spec h4 (ht.keep kk4 nt) (hw.keep kk4 nw) hbt hbw (by have := hq.2; omega) ?_
      intro m5 ok5 kp5 h5
      have hgc := gClimb_good (w := w) hg t.es.length s4 (Nat.le_refl _)
      generalize gClimb w t t.es.length s4 = gc at hK h5 hgc ⊢
      obtain ⟨s5, p5⟩ := gc
      dsimp only at hK h5 hgc ⊢
      have kk5 := kk4.trans kp5
      have bn5 := bn4.keep kp5 n1
      refine ⟨_, rfl, ?_⟩
      refine ifB_eq (fun he2 => ?_) (fun he2 => ?_)
      · rw [if_pos he2] at hK
        exact bad _ _ m5 ok5 kk5 bn5 h5 hK
      · rw [if_neg he2] at hK
        have gp : goGoodLit p5 = true := hgc.resolve_left he2
        have hwp : IntKind.wrap .i64 (0 - p5) = -p5 := wrap_neg (good_abs gp).2.2.2.1
        rw [hwp]
        refine ljoin_spec h5 (good_neg gp) ?_
        intro m6 ok6 kp6 h6
        refine ⟨rfl, ?_⟩
        have kk6 := kk5.trans kp6
        have bn6 := bn5.keep kp6 n1
        refine shrink_spec h6 (ht.keep kk6 nt) (hw.keep kk6 nw) ?_
        intro x7 m7 ok7 kp7 fz7
        generalize gShrink w t (s5.put (-p5)) (-p5) = gs at hK fz7 ⊢
        obtain ⟨ls, bk⟩ := gs
        dsimp only at hK fz7 ⊢
        refine ⟨_, _, _, _, _, _, rfl, ?_⟩
        have kk7 : Kp [b] m m7 := kk6.trans kp7.of_nil
        have bn7 := bn6.keep kp7 (by simp)
        have h7 := h6.keep kp7 (by simp)
        intro b8 hb8
        have hk8 := Kp.new (S := []) ok7 hb8 (Blk.ofList [(.int .i64 0), (.slice none 0 0), (.int .i64 0), (.int .i64 0)])
        have bn8 : BlkN (m7.new b8 (Blk.ofList [(.int .i64 0), (.slice none 0 0), (.int .i64 0), (.int .i64 0)])) b8 4 := BlkN.new b8 (by simp)
        have ok8 := ok7.new hb8 (Blk.ofList [(.int .i64 0), (.slice none 0 0), (.int .i64 0), (.int .i64 0)])
        generalize m7.new b8 (Blk.ofList [(.int .i64 0), (.slice none 0 0), (.int .i64 0), (.int .i64 0)]) = m8 at hk8 bn8 ok8
        have lt7 := bn7.lt ok7
        have ltb7 := h7.lt ok7
        have top7 := kk7.top
        refine stL_put ok8 bn8 (by simp) (by intro v hv; simp at hv; rcases hv with rfl | rfl | rfl | rfl <;> rfl) (by simp) ?_
        intro m9 ok9 kp9 row9 bn9
        have kk9 : Kp [b] m m9 := (kk7.trans hk8.of_nil).step kp9 ok (fun b' hb' => .inr (by simp at hb'; omega))
        have h9 := (h7.keep hk8 (by simp)).keep kp9 (by simp; omega)
        refine wipe_spec h9 ?_
        intro m10 ok10 kp10 h10
        refine ⟨rfl, ?_⟩
        have row10 := kp10.row (by simp; omega) row9
        obtain ⟨r0, r1, r2, r3, _⟩ := row10
        refine ⟨_, r0, _, _, _, r1, _, r2, _, r3, ?_⟩
        have bn10 : BlkN m10 b1 4 := ((bn7.keep hk8 (by simp)).keep kp9 (by simp; omega)).keep kp10 n1
        refine stl4 ok10 bn10 ?_
        intro m11 ok11 kp11
        exact hK x7 m11 ok11 (wr1 (kk9.trans kp10) kp11) (h10.keep kp11 nb) ((((fz7.keep hk8).keep kp9).keep kp10).keep kp11)
end Go.Proofs.Qxb6500974aGreat
