import Derived.Test.Qxb6500974aGreatR8
import Derived.Test.Qxb6500974aGreatM10
set_option linter.all false
set_option linter.unusedSimpArgs false
set_option linter.unusedVariables false
namespace Go.Proofs.Qxb6500974aGreat
open Go.Eng
variable {W0 : World}

structure Ln where
  seen : Nat → Bool
  has : Int → Bool
  opn : Int
  lv : Nat
def Ln.clean : Ln := ⟨fun _ => false, fun _ => false, 0, 0⟩
structure LnRep (c : LeC) (s : Ln) : Prop where
  seen : U16 c.seen ∧ ∀ v, v < 16 → tb c.seen v = s.seen v
  pos : U16 c.pos ∧ ∀ v, 1 ≤ v → v < 16 → tb c.pos v = s.has v
  neg : U16 c.neg ∧ ∀ v, 1 ≤ v → v < 16 → tb c.neg v = s.has (-v)
  opn : c.open_ = s.opn
  lv : c.lv = s.lv

structure LnAt (m : Mem) (b tr wr : Nat) (s : Ln) : Prop where
  rep : ∃ c, LeB m b c ∧ c.t = tr ∧ c.w = wr ∧ LnRep c s
theorem LnAt.keep {S : List Nat} {m m' : Mem} {b tr wr : Nat} {s : Ln} (h : LnAt m b tr wr s) (hk : Kp S m m') (hb : b ∉ S) : LnAt m' b tr wr s := by
  obtain ⟨c, h1, h2⟩ := h
  exact ⟨c, h1.keep hk hb, h2⟩
theorem LnAt.lt {m : Mem} {b tr wr : Nat} {s : Ln} (ok : m.Ok) (h : LnAt m b tr wr s) : b < m.top := by
  obtain ⟨c, h1, h2⟩ := h
  exact h1.lt ok
theorem hasb16 {x : Int} (h : U16 x) {v : Nat} (hv : v < 16) : ((bAnd .u16 x (goBit16 (v : Int))) != 0) = tb x v := by
  rw [goBit16_eq hv]
  have oa := u16_and h (u16_pow hv)
  by_cases ht : tb x v = true
  · rw [ht]
    have : bAnd .u16 x ((2 ^ v : Nat) : Int) ≠ 0 := by
      intro h0
      have := oa.2 v
      rw [h0, tb_zero, tb_pow, ht] at this
      simp at this
    simpa using this
  · have ht' := Bool.eq_false_iff.2 ht
    rw [ht']
    have : bAnd .u16 x ((2 ^ v : Nat) : Int) = 0 := by
      refine u16_ext oa.1 ⟨by omega, by omega⟩ fun i hi => ?_
      rw [oa.2, tb_zero, tb_pow]
      by_cases he : i = v
      · subst he; simp [ht']
      · simp [he]
    rw [this]; rfl
theorem set16 {x : Int} (h : U16 x) {j : Nat} (hj : j < 16) : U16 (bOr .u16 x (goBit16 (j : Int))) ∧ ∀ i, tb (bOr .u16 x (goBit16 (j : Int))) i = if i = j then true else tb x i := by
  rw [goBit16_eq hj]
  have := u16_or h (u16_pow hj)
  refine ⟨this.1, fun i => ?_⟩
  rw [this.2, tb_pow]
  by_cases he : i = j <;> simp [he]

theorem wipe_spec {b tr wr : Nat} {s : Ln} {K : Value → Mem → Prop} {m : Mem} (h : LnAt m b tr wr s) (hK : ∀ m', m'.Ok → Kp [b] m m' → LnAt m' b tr wr Ln.clean → K (.tuple #[]) m') : callOK Tryz.prog W0 111 [ptr b 0] K m := by
  refine callOK_ok fun ok => call111 ?_
  obtain ⟨c, h1, h2, h3, h4⟩ := h
  unfold s111
  refine h1.st_seen ok ?_
  intro m1 ok1 kp1 b1
  refine b1.st_pos ok1 ?_
  intro m2 ok2 kp2 b2
  refine b2.st_neg ok2 ?_
  intro m3 ok3 kp3 b3
  refine b3.st_open_ ok3 ?_
  intro m4 ok4 kp4 b4
  refine b4.st_lv ok4 ?_
  intro m5 ok5 kp5 b5
  refine hK m5 ok5 ((((kp1.trans kp2).trans kp3).trans kp4).trans kp5) ⟨_, b5, h2, h3, ?_⟩
  have hu : U16 0 := ⟨by omega, by omega⟩
  exact ⟨⟨hu, fun _ _ => tb_zero _⟩, ⟨hu, fun _ _ _ => tb_zero _⟩, ⟨hu, fun _ _ _ => tb_zero _⟩, rfl, rfl⟩
def Ln.put (s : Ln) (l : Int) : Ln := { s with has := fun x => if x = l then true else s.has x }
theorem ljoin_spec {b tr wr : Nat} {s : Ln} {l : Int} {K : Value → Mem → Prop} {m : Mem} (h : LnAt m b tr wr s) (hl : goGoodLit l = true) (hK : ∀ m', m'.Ok → Kp [b] m m' → LnAt m' b tr wr (s.put l) → K (.tuple #[]) m') : callOK Tryz.prog W0 109 [ptr b 0, .int .i64 l] K m := by
  refine callOK_ok fun ok => call109 ?_
  obtain ⟨c, h1, h2, h3, h4⟩ := h
  have ha := good_abs hl
  unfold s109
  rw [ha.2.2.2.2]
  refine ifB_gt (fun hp => ?_) (fun hp => ?_)
  · refine ⟨_, h1.pos, ?_⟩
    refine h1.st_pos ok ?_
    intro m1 ok1 kp1 b1
    have st := set16 h4.pos.1 (j := l.natAbs) (by omega)
    refine hK m1 ok1 kp1 ⟨_, b1, h2, h3, ⟨h4.seen, ⟨st.1, ?_⟩, ⟨h4.neg.1, ?_⟩, h4.opn, h4.lv⟩⟩
    · intro v hv1 hv
      dsimp only [Ln.put]
      rw [st.2]
      by_cases he : v = l.natAbs
      · rw [if_pos he, if_pos (by omega)]
      · rw [if_neg he, if_neg (by omega)]; exact h4.pos.2 v hv1 hv
    · intro v hv1 hv
      dsimp only [Ln.put]
      rw [if_neg (by omega)]; exact h4.neg.2 v hv1 hv
  · refine ⟨_, h1.neg, ?_⟩
    refine h1.st_neg ok ?_
    intro m1 ok1 kp1 b1
    have st := set16 h4.neg.1 (j := l.natAbs) (by omega)
    refine hK m1 ok1 kp1 ⟨_, b1, h2, h3, ⟨h4.seen, ⟨h4.pos.1, ?_⟩, ⟨st.1, ?_⟩, h4.opn, h4.lv⟩⟩
    · intro v hv1 hv
      dsimp only [Ln.put]
      rw [if_neg (by omega)]; exact h4.pos.2 v hv1 hv
    · intro v hv1 hv
      dsimp only [Ln.put]
      rw [st.2]
      by_cases he : v = l.natAbs
      · rw [if_pos he, if_pos (by omega)]
      · rw [if_neg he, if_neg (by omega)]; exact h4.neg.2 v hv1 hv
theorem lholds_spec {b tr wr : Nat} {s : Ln} {l : Int} {K : Value → Mem → Prop} {m : Mem} (h : LnAt m b tr wr s) (hl : goGoodLit l = true) (hK : K (.bool (s.has l)) m) : callOK Tryz.prog W0 153 [ptr b 0, .int .i64 l] K m := by
  refine call153 ?_
  obtain ⟨c, h1, h2, h3, h4⟩ := h
  have ha := good_abs hl
  unfold s153
  rw [ha.2.2.2.2]
  refine ifB_gt (fun hp => ?_) (fun hp => ?_)
  · refine ⟨_, h1.pos, ?_⟩
    dsimp only
    rw [hasb16 h4.pos.1 (by omega), h4.pos.2 _ (by omega) (by omega)]
    have : ((l.natAbs : Nat) : Int) = l := by omega
    rw [this]; exact hK
  · refine ⟨_, h1.neg, ?_⟩
    dsimp only
    rw [hasb16 h4.neg.1 (by omega), h4.neg.2 _ (by omega) (by omega)]
    have : -((l.natAbs : Nat) : Int) = l := by omega
    rw [this]; exact hK
def gLitOf (s : Ln) (v : Nat) : Int := if s.has (-v) = true then -v else if s.has v = true then v else 0
theorem litOf_spec {b tr wr : Nat} {s : Ln} {v : Nat} {K : Value → Mem → Prop} {m : Mem} (h : LnAt m b tr wr s) (hv : 1 ≤ v ∧ v ≤ 12) (hK : K (.int .i64 (gLitOf s v)) m) : callOK Tryz.prog W0 142 [ptr b 0, .int .i64 v] K m := by
  refine call142 ?_
  obtain ⟨c, h1, h2, h3, h4⟩ := h
  unfold gLitOf at hK
  unfold s142
  refine ⟨_, h1.neg, ?_⟩
  dsimp only
  rw [hasb16 h4.neg.1 (by omega), h4.neg.2 _ (by omega) (by omega)]
  refine ifB_of (fun hp => ?_) (fun hp => ?_)
  · rw [if_pos hp] at hK
    rw [wrap_i64 (by omega) (by omega)]
    have : (0 : Int) - v = -v := by omega
    rw [this]; exact hK
  · rw [if_neg (by rw [hp]; simp)] at hK
    refine ⟨_, h1.pos, ?_⟩
    dsimp only
    rw [hasb16 h4.pos.1 (by omega), h4.pos.2 _ (by omega) (by omega)]
    refine ifB_of (fun hp => ?_) (fun hp => ?_)
    · rw [if_pos hp] at hK; exact hK
    · rw [if_neg (by rw [hp]; simp)] at hK; exact hK

def gMark (t : Tr) (s : Ln) (l : Int) : Ln × Bool :=
  if s.seen l.natAbs = true then (s, true)
  else if t.levOf (goVar l) < 0 then (s, false)
  else if t.levOf (goVar l) = s.lv then ({ s with seen := fupd s.seen l.natAbs true, opn := s.opn + 1 }, true)
  else if t.levOf (goVar l) > 0 then (({ s with seen := fupd s.seen l.natAbs true } : Ln).put l, true)
  else ({ s with seen := fupd s.seen l.natAbs true }, true)
theorem mark_spec {b tr wr : Nat} {t : Tr} {s : Ln} {l : Int} {K : Value → Mem → Prop} {m : Mem} (h : LnAt m b tr wr s) (ht : TrAt m tr t) (hbt : b ≠ tr) (hl : goGoodLit l = true) (hb : -1000 ≤ s.opn ∧ s.opn ≤ 1000)
    (hK : ∀ m', m'.Ok → Kp [b] m m' → LnAt m' b tr wr (gMark t s l).1 → K (.bool (gMark t s l).2) m') : callOK Tryz.prog W0 139 [ptr b 0, .int .i64 l] K m := by
  refine callOK_ok fun ok => call139 ?_
  have h0 := h
  obtain ⟨c, h1, h2, h3, h4⟩ := h
  have ha := good_abs hl
  unfold s139
  unfold gMark at hK
  refine ⟨_, h1.seen, ?_⟩
  dsimp only
  have hbit : ((bAnd .u16 c.seen (goBit16 (goVar l))) != 0) = s.seen l.natAbs := by
    rw [ha.2.2.2.2, hasb16 h4.seen.1 (by omega), h4.seen.2 _ (by omega)]
  rw [hbit]
  refine ifB_of (fun hp => ?_) (fun hp => ?_)
  · rw [if_pos hp] at hK; exact hK m ok (Kp.refl _ _) h0
  · rw [if_neg (by rw [hp]; simp)] at hK
    refine ⟨_, h1.t, ?_⟩
    dsimp only
    rw [h2]
    refine levelOf_spec ht ⟨_, rfl, ?_⟩
    refine ifB_lt (fun hn => ?_) (fun hn => ?_)
    · rw [if_pos hn] at hK; exact hK m ok (Kp.refl _ _) h0
    · rw [if_neg (by omega)] at hK
      refine ⟨_, h1.seen, ?_⟩
      refine h1.st_seen ok ?_
      intro m1 ok1 kp1 b1
      refine ⟨_, b1.lv, ?_⟩
      dsimp only
      have st := set16 h4.seen.1 (j := l.natAbs) (by omega)
      rw [← ha.2.2.2.2] at st
      have hseen : ∀ v, v < 16 → tb (bOr .u16 c.seen (goBit16 (goVar l))) v = fupd s.seen l.natAbs true v := by
        intro v hv
        rw [st.2]
        unfold fupd
        by_cases he : v = l.natAbs
        · rw [if_pos he, if_pos he]
        · rw [if_neg he, if_neg he]; exact h4.seen.2 v hv
      rw [h4.lv]
      refine ifB_eq (fun he => ?_) (fun he => ?_)
      · rw [if_pos he] at hK
        refine ⟨_, b1.open_, ?_⟩
        refine b1.st_open_ ok1 ?_
        intro m2 ok2 kp2 b2
        refine hK m2 ok2 (kp1.trans kp2) ⟨_, b2, h2, h3, ⟨⟨st.1, hseen⟩, h4.pos, h4.neg, ?_, h4.lv⟩⟩
        dsimp only
        rw [h4.opn, wrap_i64 (by omega) (by omega)]
      · rw [if_neg he] at hK
        refine ifB_gt (fun hg => ?_) (fun hg => ?_)
        · rw [if_pos hg] at hK
          refine ljoin_spec (s := { s with seen := fupd s.seen l.natAbs true }) ⟨_, b1, h2, h3, ⟨⟨st.1, hseen⟩, h4.pos, h4.neg, h4.opn, h4.lv⟩⟩ hl ?_
          intro m2 ok2 kp2 b2
          exact ⟨rfl, hK m2 ok2 (kp1.trans kp2) b2⟩
        · rw [if_neg (by omega)] at hK
          exact hK m1 ok1 kp1 ⟨_, b1, h2, h3, ⟨⟨st.1, hseen⟩, h4.pos, h4.neg, h4.opn, h4.lv⟩⟩
theorem gMark_opn (t : Tr) (s : Ln) (l : Int) : s.opn ≤ (gMark t s l).1.opn ∧ (gMark t s l).1.opn ≤ s.opn + 1 := by
  unfold gMark
  split
  · simp; omega
  · split
    · simp; omega
    · split
      · simp; omega
      · split
        · simp [Ln.put]; omega
        · simp; omega
def gMarkAll (t : Tr) : Ln → List Int → Ln × Bool
  | s, [] => (s, true)
  | s, l :: ls => if (gMark t s l).2 = true then gMarkAll t (gMark t s l).1 ls else ((gMark t s l).1, false)
theorem gMarkAll_opn (t : Tr) : ∀ (ls : List Int) (s : Ln), s.opn ≤ (gMarkAll t s ls).1.opn ∧ (gMarkAll t s ls).1.opn ≤ s.opn + ls.length
  | [], s => by simp [gMarkAll]
  | l :: ls, s => by
    simp only [gMarkAll, List.length_cons]
    have h1 := gMark_opn t s l
    split
    · have h2 := gMarkAll_opn t ls (gMark t s l).1
      omega
    · dsimp only; omega
theorem markAll_spec {b tr wr : Nat} {t : Tr} {s : Ln} {l : List Int} {a : Option Addr} {n cc : Nat} {K : Value → Mem → Prop} {m : Mem} (h : LnAt m b tr wr s) (ht : TrAt m tr t) (hbt : b ≠ tr) (hl : FzI m a n l) (hg : ∀ x ∈ l, goGoodLit x = true) (hlen : l.length ≤ 12) (hb : -500 ≤ s.opn ∧ s.opn ≤ 500)
    (hK : ∀ m', m'.Ok → Kp [b] m m' → LnAt m' b tr wr (gMarkAll t s l).1 → K (.bool (gMarkAll t s l).2) m') : callOK Tryz.prog W0 107 [ptr b 0, .slice a n cc] K m := by
  refine callOK_ok fun ok => call107 ?_
  unfold s107
  have hn := hl.len
  refine loop107_1 (γ := Nat × Ln) (fun g t4 i m' => i = g.1 ∧ g.1 ≤ l.length ∧ m'.Ok ∧ Kp [b] m m' ∧ LnAt m' b tr wr g.2 ∧ -500 ≤ g.2.opn ∧ g.2.opn ≤ 500 + g.1 ∧ gMarkAll t g.2 (l.drop g.1) = gMarkAll t s l) (fun g _ _ => l.length - g.1) (0, s) ⟨rfl, by dsimp only; omega, ok, Kp.refl _ _, h, by dsimp only; omega, by dsimp only; omega, rfl⟩ ?_
  rintro ⟨k, s1⟩ t4 i m1 ⟨rfl, hk, ok1, kp1, h1, hb1, hb2, hj⟩
  dsimp only at hk h1 hb1 hb2 hj ⊢
  unfold s107_1
  refine ifB_lt (fun hlt => ?_) (fun hlt => ?_)
  · have hkl : k < l.length := by omega
    rw [drop_cons hkl 0] at hj
    simp only [gMarkAll] at hj
    refine (hl.keep kp1).sl.get (by omega) (by omega) fun _ _ _ => ?_
    simp only [Int.toNat_natCast]
    have gk : goGoodLit (l.getD k 0) = true := hg _ (mem_getD hkl 0)
    refine mark_spec h1 (ht.keep kp1 (by simpa using fun h => hbt h.symm)) hbt gk (by omega) ?_
    intro m2 ok2 kp2 h2
    have ho := gMark_opn t s1 (l.getD k 0)
    generalize gMark t s1 (l.getD k 0) = gm at hj h2 ho ⊢
    obtain ⟨s2, r2⟩ := gm
    dsimp only at hj h2 ho ⊢
    refine ⟨_, rfl, ?_⟩
    refine ifB_not (fun hf => ?_) (fun hf => ?_)
    · rw [if_neg (by rw [hf]; simp)] at hj
      rw [e107_1r]
      rw [← hj] at hK
      exact hK m2 ok2 (kp1.trans kp2) h2
    · rw [if_pos hf] at hj
      exact ⟨(k + 1, _), _, _, rfl, ⟨wrapS k (by omega), by dsimp only; omega, ok2, kp1.trans kp2, h2, by dsimp only; omega, by dsimp only; omega, hj⟩, by dsimp only; omega⟩
  · rw [e107_1x0]
    have : k = l.length := by omega
    subst this
    rw [List.drop_length] at hj
    simp only [gMarkAll] at hj
    rw [← hj] at hK
    exact hK m1 ok1 kp1 h1
end Go.Proofs.Qxb6500974aGreat
