import Derived.Test.Qxb6500974aGreatR12
set_option linter.all false
set_option linter.unusedSimpArgs false
set_option linter.unusedVariables false
namespace Go.Proofs.Qxb6500974aGreat
open Go.Eng
variable {W0 : World}

structure Pst where
  arena : List Int
  state : Nat
  start : Nat
  minus : Bool
  val : Nat
  pos : Nat → Bool
  neg : Nat → Bool
  del : Bool
  opn : Bool
  err : Int
  at_ : Int
structure PaRep (c : PaC) (s : Pst) : Prop where
  state : c.state = s.state
  start : c.start = s.start
  minus : c.minus = s.minus
  val : c.val = s.val ∧ s.val ≤ 13
  pos : U16 c.pos ∧ ∀ v, v < 16 → tb c.pos v = s.pos v
  neg : U16 c.neg ∧ ∀ v, v < 16 → tb c.neg v = s.neg v
  del : c.del = s.del
  opn : c.open_ = s.opn
  err : c.err = s.err
  at_ : c.at_ = s.at_
structure PaI (m : Mem) (p : Nat) (aa : Option Addr) (s : Pst) (c : PaC) : Prop where
  so : PaB m p c
  ha : c.arena.1 = aa
  own : OwnI m c.arena.1 c.arena.2.1 c.arena.2.2 s.arena
  rep : PaRep c s
  d : p ∉ blkOf aa

def PaAt (m : Mem) (p : Nat) (aa : Option Addr) (s : Pst) : Prop := ∃ c, PaI m p aa s c
theorem PaI.keep {S : List Nat} {m m' : Mem} {p : Nat} {aa : Option Addr} {s : Pst} {c : PaC} (h : PaI m p aa s c) (hk : Kp S m m') (hb : p ∉ S) (hl : ∀ x ∈ blkOf aa, x ∉ S) : PaI m' p aa s c :=
  ⟨h.so.keep hk hb, h.ha, h.own.keep hk (by rw [h.ha]; exact hl), h.rep, h.d⟩
theorem PaAt.keep {S : List Nat} {m m' : Mem} {p : Nat} {aa : Option Addr} {s : Pst} (h : PaAt m p aa s) (hk : Kp S m m') (hl : ∀ x ∈ p :: blkOf aa, x ∉ S) : PaAt m' p aa s := by
  obtain ⟨c, h⟩ := h
  exact ⟨c, h.keep hk (hl _ (by simp)) (fun x hx => hl x (by simp [hx]))⟩
theorem PaAt.lt {m : Mem} {p : Nat} {aa : Option Addr} {s : Pst} (ok : m.Ok) (h : PaAt m p aa s) : ∀ x ∈ p :: blkOf aa, x < m.top := by
  obtain ⟨c, h⟩ := h
  intro x hx
  simp only [List.mem_cons] at hx
  rcases hx with rfl | hx
  · exact h.so.lt ok
  · obtain ⟨_, css, ho, _⟩ := h.own
    exact ho.lt ok x (by rw [h.ha]; exact hx)

theorem PaI.set {m m' : Mem} {p : Nat} {aa : Option Addr} {s s' : Pst} {c c' : PaC} (h : PaI m p aa s c) (hk : Kp [p] m m') (hb : PaB m' p c') (e : c'.arena = c.arena) (hr : PaRep c' s') (ea : s'.arena = s.arena) : PaI m' p aa s' c' := by
  refine ⟨hb, by rw [e, h.ha], ?_, hr, h.d⟩
  rw [e, ea]
  refine h.own.keep hk fun x hx => ?_
  rw [h.ha] at hx
  simp only [List.mem_singleton]
  rintro rfl
  exact h.d hx
def noV : Nat → Bool := fun _ => false
def Pst.rest : Pst := ⟨[], 0, 0, false, 0, noV, noV, false, false, 0, 0⟩
theorem u16_0 : U16 0 := ⟨by omega, by omega⟩
theorem prest_spec {p : Nat} {aa : Option Addr} {s : Pst} {K : Value → Mem → Prop} {m : Mem} (h : PaAt m p aa s) (hK : ∀ m', m'.Ok → Kp [p] m m' → PaAt m' p aa Pst.rest → K (.tuple #[]) m') : callOK Tryz.prog W0 49 [ptr p 0] K m := by
  refine callOK_ok fun ok => call49 ?_
  obtain ⟨c, h⟩ := h
  unfold s49
  refine ⟨_, _, _, h.so.arena, ?_⟩
  refine ⟨by omega, by omega, ?_⟩
  have e1 := own_blk h.own
  have own0 := own_empty h.own
  rw [e1] at own0 ⊢
  refine h.so.st_arena (x := (c.arena.1, 0, c.arena.2.2)) ok ?_
  intro m1 ok1 k1 b1
  refine b1.st_state ok1 ?_
  intro m2 ok2 k2 b2
  refine b2.st_start ok2 ?_
  intro m3 ok3 k3 b3
  refine b3.st_minus ok3 ?_
  intro m4 ok4 k4 b4
  refine b4.st_val ok4 ?_
  intro m5 ok5 k5 b5
  refine b5.st_pos ok5 ?_
  intro m6 ok6 k6 b6
  refine b6.st_neg ok6 ?_
  intro m7 ok7 k7 b7
  refine b7.st_del ok7 ?_
  intro m8 ok8 k8 b8
  refine b8.st_open_ ok8 ?_
  intro m9 ok9 k9 b9
  refine b9.st_err ok9 ?_
  intro m10 ok10 k10 b10
  refine b10.st_at_ ok10 ?_
  intro m11 ok11 k11 b11
  have kk := (((((((((k1.trans k2).trans k3).trans k4).trans k5).trans k6).trans k7).trans k8).trans k9).trans k10).trans k11
  refine hK m11 ok11 kk ⟨_, b11, h.ha, ?_, ⟨rfl, rfl, rfl, ⟨rfl, by simp [Pst.rest]⟩, ⟨u16_0, fun v _ => tb_zero v⟩, ⟨u16_0, fun v _ => tb_zero v⟩, rfl, rfl, rfl, rfl⟩, h.d⟩
  refine own0.keep kk fun x hx => ?_
  rw [h.ha] at hx
  simp only [List.mem_singleton]
  rintro rfl
  exact h.d hx
def pFail (s : Pst) (e at_ : Int) : Pst := { s with err := e, at_ := at_ }
theorem pfail_spec {p : Nat} {aa : Option Addr} {s : Pst} {e i : Int} {K : Value → Mem → Prop} {m : Mem} (h : PaAt m p aa s) (hK : ∀ m', m'.Ok → Kp [p] m m' → PaAt m' p aa (pFail s e i) → K (.tuple #[]) m') : callOK Tryz.prog W0 51 [ptr p 0, .int .i64 e, .int .i64 i] K m := by
  refine callOK_ok fun ok => call51 ?_
  obtain ⟨c, h⟩ := h
  unfold s51
  refine h.so.st_err ok ?_
  intro m1 ok1 k1 b1
  refine b1.st_at_ ok1 ?_
  intro m2 ok2 k2 b2
  refine hK m2 ok2 (k1.trans k2) ⟨_, h.set (k1.trans k2) b2 rfl ⟨h.rep.state, h.rep.start, h.rep.minus, h.rep.val, h.rep.pos, h.rep.neg, h.rep.del, h.rep.opn, rfl, rfl⟩ rfl⟩
def pBegin (s : Pst) (c : Nat) (i : Nat) : Pst :=
  if goClass c = 4 then { s with start := i, state := 1 }
  else if goClass c = 5 then (if s.opn = true then pFail { s with start := i } 2 i else { s with start := i, state := 4, del := true, opn := true })
  else if goClass c = 3 then { s with start := i, state := 2, minus := true, val := 0 }
  else if goClass c = 2 then { s with start := i, state := 3, minus := false, val := c - 48 }
  else if goClass c = 0 then pFail { s with start := i } 2 i
  else { s with start := i }
theorem class_digit {c : Nat} (h : goClass c = 2) : 48 ≤ c ∧ c ≤ 57 := by
  unfold goClass at h
  repeat' split at h
  all_goals first | omega | (cases h)
theorem digit_wrap {c : Nat} (h : goClass c = 2) : IntKind.wrap .i64 (IntKind.wrap .u8 ((c : Int) - 48)) = ((c - 48 : Nat) : Int) := by
  have := class_digit h
  have e : IntKind.wrap .u8 ((c : Int) - 48) = (c : Int) - 48 := by
    simp only [IntKind.wrap, IntKind.signed, IntKind.bits]
    simp
    omega
  rw [e, wrap_i64 (by omega) (by omega)]; omega
theorem pbegin_spec {p : Nat} {aa : Option Addr} {s : Pst} {c i : Nat} {K : Value → Mem → Prop} {m : Mem} (h : PaAt m p aa s) (hK : ∀ m', m'.Ok → Kp [p] m m' → PaAt m' p aa (pBegin s c i) → K (.tuple #[]) m') : callOK Tryz.prog W0 92 [ptr p 0, .int .u8 c, .int .i64 (goClass c), .int .i64 i] K m := by
  refine callOK_ok fun ok => call92 ?_
  obtain ⟨c0, h⟩ := h
  unfold s92
  refine h.so.st_start ok ?_
  intro m1 ok1 k1 b1
  have h1 : PaI m1 p aa { s with start := i } _ := h.set k1 b1 rfl ⟨h.rep.state, rfl, h.rep.minus, h.rep.val, h.rep.pos, h.rep.neg, h.rep.del, h.rep.opn, h.rep.err, h.rep.at_⟩ rfl
  unfold pBegin at hK
  have hdw := digit_wrap (c := c)
  have hdg := class_digit (c := c)
  generalize goClass (c : Int) = k at hK hdw hdg ⊢
  refine ifB_eq (fun e4 => ?_) (fun e4 => ?_)
  · rw [if_pos e4] at hK
    refine b1.st_state ok1 ?_
    intro m2 ok2 k2 b2
    exact hK m2 ok2 (k1.trans k2) ⟨_, h1.set k2 b2 rfl ⟨rfl, h1.rep.start, h1.rep.minus, h1.rep.val, h1.rep.pos, h1.rep.neg, h1.rep.del, h1.rep.opn, h1.rep.err, h1.rep.at_⟩ rfl⟩
  · rw [if_neg e4] at hK
    refine ifB_eq (fun e5 => ?_) (fun e5 => ?_)
    · rw [if_pos e5] at hK
      refine ⟨_, b1.open_, ?_⟩
      dsimp only
      rw [h.rep.opn]
      refine ifB_of (fun ho => ?_) (fun ho => ?_)
      · rw [if_pos ho] at hK
        refine pfail_spec ⟨_, h1⟩ ?_
        intro m2 ok2 k2 h2
        exact ⟨rfl, hK m2 ok2 (k1.trans k2) h2⟩
      · rw [if_neg (by rw [ho]; simp)] at hK
        refine b1.st_state ok1 ?_
        intro m2 ok2 k2 b2
        refine b2.st_del ok2 ?_
        intro m3 ok3 k3 b3
        refine b3.st_open_ ok3 ?_
        intro m4 ok4 k4 b4
        have kk := (k2.trans k3).trans k4
        exact hK m4 ok4 (k1.trans kk) ⟨_, h1.set kk b4 rfl ⟨rfl, h1.rep.start, h1.rep.minus, h1.rep.val, h1.rep.pos, h1.rep.neg, rfl, rfl, h1.rep.err, h1.rep.at_⟩ rfl⟩
    · rw [if_neg e5] at hK
      refine ifB_eq (fun e3 => ?_) (fun e3 => ?_)
      · rw [if_pos e3] at hK
        refine b1.st_state ok1 ?_
        intro m2 ok2 k2 b2
        refine b2.st_minus ok2 ?_
        intro m3 ok3 k3 b3
        refine b3.st_val ok3 ?_
        intro m4 ok4 k4 b4
        have kk := (k2.trans k3).trans k4
        exact hK m4 ok4 (k1.trans kk) ⟨_, h1.set kk b4 rfl ⟨rfl, h1.rep.start, rfl, ⟨rfl, by simp⟩, h1.rep.pos, h1.rep.neg, h1.rep.del, h1.rep.opn, h1.rep.err, h1.rep.at_⟩ rfl⟩
      · rw [if_neg e3] at hK
        refine ifB_eq (fun e2 => ?_) (fun e2 => ?_)
        · rw [if_pos e2] at hK
          have hd := hdg e2
          rw [hdw e2]
          refine b1.st_state ok1 ?_
          intro m2 ok2 k2 b2
          refine b2.st_minus ok2 ?_
          intro m3 ok3 k3 b3
          refine b3.st_val ok3 ?_
          intro m4 ok4 k4 b4
          have kk := (k2.trans k3).trans k4
          exact hK m4 ok4 (k1.trans kk) ⟨_, h1.set kk b4 rfl ⟨rfl, h1.rep.start, rfl, ⟨rfl, by dsimp only; omega⟩, h1.rep.pos, h1.rep.neg, h1.rep.del, h1.rep.opn, h1.rep.err, h1.rep.at_⟩ rfl⟩
        · rw [if_neg e2] at hK
          refine ifB_eq (fun e0 => ?_) (fun e0 => ?_)
          · rw [if_pos e0] at hK
            refine pfail_spec ⟨_, h1⟩ ?_
            intro m2 ok2 k2 h2
            exact ⟨rfl, hK m2 ok2 (k1.trans k2) h2⟩
          · rw [if_neg e0] at hK
            exact hK m1 ok1 k1 ⟨_, h1⟩

def disj (pos neg : Nat → Bool) : Bool := (List.range 16).all fun i => !(pos i && neg i)
def sweepA (pos neg : Nat → Bool) : Nat → Nat → List Int
  | 0, _ => []
  | n + 1, v => ((if pos v = true then [(v : Int)] else []) ++ (if neg v = true then [-(v : Int)] else [])) ++ sweepA pos neg n (v + 1)
def endArena (s : Pst) : List Int := if disj s.pos s.neg = true then (if s.del = true then s.arena ++ [13] else s.arena) ++ sweepA s.pos s.neg 12 1 ++ [0] else s.arena
def pEnd (s : Pst) : Pst := { s with arena := endArena s, pos := noV, neg := noV, del := false, opn := false }
theorem arena_one {b : Nat} {c : PaC} {L : List Int} {y : Int} {m : Mem} {K : Mem → Prop} (ok : m.Ok) (hs : PaB m b c) (ho : OwnI m c.arena.1 c.arena.2.1 c.arena.2.2 L) (hb : b ∉ blkOf c.arena.1) (hsz : L.length ≤ 2 ^ 40)
    (hK : ∀ x m', m'.Ok → Kp (b :: blkOf c.arena.1) m m' → PaB m' b { c with arena := x } → OwnI m' x.1 x.2.1 x.2.2 (L ++ [y]) → InS (blkOf c.arena.1) m (blkOf x.1) → b ∉ blkOf x.1 → K m') :
    allocB m (Blk.ofList [(.int .i64 y)]) fun b_2 m_3 => rdRow m_3 (some ⟨b_2, 0, none⟩) (1 * 1) fun r => appendC m_3 1 8 [(.int .i64 0)] c.arena.1 c.arena.2.1 c.arena.2.2 1 r fun a' c' m1 => st m1 b 0 (.slice a' (c.arena.2.1 + 1) c') K := by
  have e1 := ho.len
  have hlt := hs.lt ok
  refine Elt.app1 (E := EI) (x := y) ok ho rfl rfl rfl (by omega) (by omega) ?_
  intro a1 c1 m1 ok1 kp1 own1 in1
  have hs1 := hs.keep kp1 hb
  have nb1 : b ∉ blkOf a1 := fun h0 => by
    rcases in1 _ h0 with h | h
    · exact hb h
    · omega
  refine hs1.st_arena (x := (a1, c.arena.2.1 + 1, c1)) ok1 ?_
  intro m2 ok2 kp2 b2
  refine hK (a1, c.arena.2.1 + 1, c1) m2 ok2 ((kp1.mono (by simp; exact fun _ h => .inr h)).trans (kp2.mono (by simp))) b2 (own1.keep kp2 (by intro x hx; simp; intro h0; subst h0; exact nb1 hx)) in1 nb1

theorem PaI.push {p : Nat} {aa : Option Addr} {s : Pst} {c : PaC} {y : Int} {m : Mem} {K : Mem → Prop} (ok : m.Ok) (h : PaI m p aa s c) (hsz : s.arena.length ≤ 2 ^ 40)
    (hK : ∀ aa' c' m', m'.Ok → Kp (p :: blkOf aa) m m' → InS (blkOf aa) m (blkOf aa') → PaI m' p aa' { s with arena := s.arena ++ [y] } c' → c'.pos = c.pos → c'.neg = c.neg → K m') :
    allocB m (Blk.ofList [(.int .i64 y)]) fun b_2 m_3 => rdRow m_3 (some ⟨b_2, 0, none⟩) (1 * 1) fun r => appendC m_3 1 8 [(.int .i64 0)] c.arena.1 c.arena.2.1 c.arena.2.2 1 r fun a' c' m1 => st m1 p 0 (.slice a' (c.arena.2.1 + 1) c') K := by
  refine arena_one ok h.so h.own (by rw [h.ha]; exact h.d) hsz ?_
  intro x m' ok' kp' b' own' in' nb'
  rw [h.ha] at kp' in'
  exact hK x.1 _ m' ok' kp' in' ⟨b', rfl, own', ⟨h.rep.state, h.rep.start, h.rep.minus, h.rep.val, h.rep.pos, h.rep.neg, h.rep.del, h.rep.opn, h.rep.err, h.rep.at_⟩, nb'⟩ rfl rfl
theorem sweepA_len (pos neg : Nat → Bool) : ∀ (n v : Nat), (sweepA pos neg n v).length ≤ 2 * n
  | 0, v => by simp [sweepA]
  | n + 1, v => by
    simp only [sweepA, List.length_append]
    have := sweepA_len pos neg n (v + 1)
    split <;> split <;> simp <;> omega
theorem sub_cons {p : Nat} {la x : Option Addr} {m : Mem} (hx : InS (blkOf la) m (blkOf x)) : InS (p :: blkOf la) m (p :: blkOf x) := by
  intro y hy
  simp only [List.mem_cons] at hy ⊢
  rcases hy with rfl | hy
  · exact .inl (.inl rfl)
  · exact (hx y hy).orMap .inr id
theorem endRow_spec {p : Nat} {aa : Option Addr} {s : Pst} {K : Value → Mem → Prop} {m : Mem} (h : PaAt m p aa s) (hsz : s.arena.length ≤ 2 ^ 30)
    (hK : ∀ aa' m', m'.Ok → Kp (p :: blkOf aa) m m' → InS (blkOf aa) m (blkOf aa') → PaAt m' p aa' (pEnd s) → K (.tuple #[]) m') : callOK Tryz.prog W0 134 [ptr p 0] K m := by
  refine callOK_ok fun ok => call134 ?_
  obtain ⟨c, h⟩ := h
  unfold s134
  refine ⟨_, h.so.pos, _, h.so.neg, ?_⟩
  unfold pEnd endArena at hK
  have hdis : (bAnd .u16 c.pos c.neg = 0) ↔ disj s.pos s.neg = true := by
    have oa := u16_and h.rep.pos.1 h.rep.neg.1
    unfold disj
    rw [List.all_eq_true]
    constructor
    · intro h0 i hi
      have hi' := List.mem_range.1 hi
      have := oa.2 i
      rw [h0, tb_zero, h.rep.pos.2 i hi', h.rep.neg.2 i hi'] at this
      rw [← this]; rfl
    · intro h0
      refine u16_ext oa.1 u16_0 fun i hi => ?_
      have := h0 i (List.mem_range.2 hi)
      rw [oa.2, tb_zero, h.rep.pos.2 i hi, h.rep.neg.2 i hi]
      revert this
      cases s.pos i <;> cases s.neg i <;> simp

  have fin : ∀ (aa' : Option Addr) (s' : Pst) (c' : PaC) (m' : Mem), m'.Ok → Kp (p :: blkOf aa) m m' → InS (blkOf aa) m (blkOf aa') → PaI m' p aa' s' c' →
      (∀ m2, m2.Ok → Kp (p :: blkOf aa) m m2 → PaAt m2 p aa' { s' with pos := noV, neg := noV, del := false, opn := false } → K (.tuple #[]) m2) →
      st m' p 5 (.int .u16 0) fun m_11 => st m_11 p 6 (.int .u16 0) fun m_12 => st m_12 p 7 (.bool false) fun m_13 => st m_13 p 8 (.bool false) fun m_14 => K (.tuple #[]) m_14 := by
    intro aa' s' c' m' ok' kp' in' h' hK'
    refine h'.so.st_pos ok' ?_
    intro m1 ok1 k1 b1
    refine b1.st_neg ok1 ?_
    intro m2 ok2 k2 b2
    refine b2.st_del ok2 ?_
    intro m3 ok3 k3 b3
    refine b3.st_open_ ok3 ?_
    intro m4 ok4 k4 b4
    have kk := ((k1.trans k2).trans k3).trans k4
    exact hK' m4 ok4 (kp'.trans (kk.mono (by simp))) ⟨_, h'.set kk b4 rfl ⟨h'.rep.state, h'.rep.start, h'.rep.minus, h'.rep.val, ⟨u16_0, fun v _ => tb_zero v⟩, ⟨u16_0, fun v _ => tb_zero v⟩, rfl, rfl, h'.rep.err, h'.rep.at_⟩ rfl⟩
  refine ifB_eq (fun he => ?_) (fun he => ?_)
  · rw [if_pos (hdis.1 he)] at hK
    refine ⟨_, h.so.del, ?_⟩
    rw [h.rep.del]

    obtain ⟨A, hA⟩ : ∃ A, (if s.del = true then s.arena ++ [13] else s.arena) = A := ⟨_, rfl⟩
    rw [hA] at hK
    obtain ⟨R, hR⟩ : ∃ R, A ++ sweepA s.pos s.neg 12 1 = R := ⟨_, rfl⟩
    rw [hR] at hK
    have hRl : R.length ≤ A.length + 24 := by
      rw [← hR, List.length_append]
      have := sweepA_len s.pos s.neg 12 1
      omega
    have hAl : A.length ≤ s.arena.length + 1 := by rw [← hA]; split <;> simp
    have key := fun (aa1 : Option Addr) (m1 : Mem) (ok1 : m1.Ok) (kp1 : Kp (p :: blkOf aa) m m1) (in1 : InS (blkOf aa) m (blkOf aa1)) (h1 : PaAt m1 p aa1 { s with arena := A }) =>
      loop134_1 (C := callOK Tryz.prog W0) (p0 := p) (K := K) (m := m1) (γ := Nat × Option Addr × List Int) (v2 := 1)
        (fun g v m' => v = ((13 - g.1 : Nat) : Int) ∧ g.1 ≤ 12 ∧ m'.Ok ∧ Kp (p :: blkOf aa) m m' ∧ InS (blkOf aa) m (blkOf g.2.1) ∧ PaAt m' p g.2.1 { s with arena := g.2.2 } ∧ g.2.2 ++ sweepA s.pos s.neg g.1 (13 - g.1) = R) (fun g _ => g.1) (12, aa1, A)
        ⟨rfl, by dsimp only; omega, ok1, kp1, in1, h1, hR⟩ (by
        rintro ⟨k, aa2, L⟩ v m2 ⟨rfl, hk, ok2, kp2, in2, ⟨c2, h2⟩, hj⟩
        dsimp only at hk in2 h2 hj ⊢
        have hLl : L.length ≤ 2 ^ 31 := by
          have e := congrArg List.length hj
          simp only [List.length_append] at e
          omega
        unfold s134_1
        refine ifB_le (fun hle => ?_) (fun hle => ?_)
        · obtain ⟨n, rfl⟩ : ∃ n, k = n + 1 := ⟨k - 1, by omega⟩
          obtain ⟨u, hu⟩ : ∃ u, 13 - (n + 1) = u := ⟨_, rfl⟩
          have hu2 : 13 - n = u + 1 := by omega
          rw [hu] at hj ⊢
          simp only [sweepA] at hj
          have hwv : IntKind.wrap .i64 ((u : Int) + 1) = ((13 - n : Nat) : Int) := by rw [wrap_i64 (by omega) (by omega)]; omega
          have hwn : IntKind.wrap .i64 (0 - (u : Int)) = -(u : Int) := by rw [wrap_i64 (by omega) (by omega)]; omega
          rw [hwv, hwn]
          refine ⟨wrap_u64_nonneg _, ?_⟩
          rw [shl16 (show u < 16 by omega)]
          have bit : ∀ {x : Int} {f : Nat → Bool}, U16 x → (∀ v, v < 16 → tb x v = f v) → (bAnd .u16 x ((2 ^ u : Nat) : Int) != 0) = f u := by
            intro x f hx hf
            have := hasb16 hx (show u < 16 by omega)
            rw [goBit16_eq (by omega)] at this
            rw [this, hf u (by omega)]
          refine ⟨_, h2.so.pos, ?_⟩
          dsimp only
          rw [bit h2.rep.pos.1 h2.rep.pos.2]
          dsimp only
          refine ifB_of (fun hp => ?_) (fun hp => ?_)
          · rw [if_pos hp] at hj
            refine ⟨_, _, _, h2.so.arena, ?_⟩
            refine PaI.push ok2 h2 (by dsimp only; omega) ?_
            intro aa3 c3 m3 ok3 kp3 in3 h3 ep en
            have kk3 := kp2.step kp3 ok (sub_cons in2)
            have ii3 := in2.trans in3 kp2.top
            refine ⟨_, h3.so.neg, ?_⟩
            dsimp only
            rw [bit h3.rep.neg.1 h3.rep.neg.2]
            dsimp only
            refine ifB_of (fun hq => ?_) (fun hq => ?_)
            · rw [if_pos hq] at hj
              refine ⟨_, _, _, h3.so.arena, ?_⟩
              refine PaI.push ok3 h3 (by simp; omega) ?_
              intro aa4 c4 m4 ok4 kp4 in4 h4 _ _
              refine ⟨(n, aa4, L ++ [(u : Int)] ++ [-(u : Int)]), _, rfl, ⟨rfl, by dsimp only; omega, ok4, kk3.step kp4 ok (sub_cons ii3), ii3.trans in4 kk3.top, ⟨_, h4⟩, ?_⟩, by dsimp only; omega⟩
              dsimp only; rw [hu2]; simpa using hj
            · rw [if_neg (by rw [hq]; simp)] at hj
              refine ⟨(n, aa3, L ++ [(u : Int)]), _, rfl, ⟨rfl, by dsimp only; omega, ok3, kk3, ii3, ⟨_, h3⟩, ?_⟩, by dsimp only; omega⟩
              dsimp only; rw [hu2]; simpa using hj
          · rw [if_neg (by rw [hp]; simp)] at hj
            refine ⟨_, h2.so.neg, ?_⟩
            dsimp only
            rw [bit h2.rep.neg.1 h2.rep.neg.2]
            dsimp only
            refine ifB_of (fun hq => ?_) (fun hq => ?_)
            · rw [if_pos hq] at hj
              refine ⟨_, _, _, h2.so.arena, ?_⟩
              refine PaI.push ok2 h2 (by dsimp only; omega) ?_
              intro aa4 c4 m4 ok4 kp4 in4 h4 _ _
              refine ⟨(n, aa4, L ++ [-(u : Int)]), _, rfl, ⟨rfl, by dsimp only; omega, ok4, kp2.step kp4 ok (sub_cons in2), in2.trans in4 kp2.top, ⟨_, h4⟩, ?_⟩, by dsimp only; omega⟩
              dsimp only; rw [hu2]; simpa using hj
            · rw [if_neg (by rw [hq]; simp)] at hj
              refine ⟨(n, aa2, L), _, rfl, ⟨rfl, by dsimp only; omega, ok2, kp2, in2, ⟨_, h2⟩, ?_⟩, by dsimp only; omega⟩
              dsimp only; rw [hu2]; simpa using hj
        · have : k = 0 := by omega
          subst this
          simp only [sweepA, List.append_nil] at hj
          subst hj
          rw [e134_1x0]
          unfold s134_1x0
          refine ⟨_, _, _, h2.so.arena, ?_⟩
          refine PaI.push ok2 h2 (by dsimp only; omega) ?_
          intro aa3 c3 m3 ok3 kp3 in3 h3 _ _
          have kk3 := kp2.step kp3 ok (sub_cons in2)
          have ii3 := in2.trans in3 kp2.top
          refine fin aa3 _ c3 m3 ok3 kk3 ii3 h3 ?_
          intro m4 ok4 kp4 h4
          refine hK aa3 m4 ok4 kp4 ii3 ?_
          simpa using h4)
    refine ifB_of (fun hdl => ?_) (fun hdl => ?_)
    · rw [if_pos hdl] at hA
      refine ⟨_, _, _, h.so.arena, ?_⟩
      refine PaI.push ok h (by omega) ?_
      intro aa1 c1 m1 ok1 kp1 in1 h1 _ _
      refine key aa1 m1 ok1 kp1 in1 ⟨c1, ?_⟩
      rw [← hA]; exact h1
    · rw [if_neg (by rw [hdl]; simp)] at hA
      refine key aa m ok (Kp.refl _ _) (InS.self _ _) ⟨c, ?_⟩
      rw [← hA]; exact h
  · rw [if_neg (fun h0 => he (hdis.2 h0))] at hK
    exact fin aa s c m ok (Kp.refl _ _) (InS.self _ _) h (fun m2 ok2 k2 h2 => hK aa m2 ok2 k2 (InS.self _ _) h2)

def pNumber (s : Pst) : Pst :=
  if s.val = 0 ∧ s.minus = true then pFail s 3 s.start
  else if s.val > 12 then pFail s 4 s.start
  else if s.val = 0 then pEnd s
  else if s.minus = true then { s with opn := true, neg := fupd s.neg s.val true }
  else { s with opn := true, pos := fupd s.pos s.val true }
theorem pset16 {x : Int} {f : Nat → Bool} (h : U16 x ∧ ∀ v, v < 16 → tb x v = f v) {j : Nat} (hj : j < 16) : U16 (bOr .u16 x (shlV .u16 1 (IntKind.wrap .u64 (j : Int)))) ∧ ∀ v, v < 16 → tb (bOr .u16 x (shlV .u16 1 (IntKind.wrap .u64 (j : Int)))) v = fupd f j true v := by
  have st := set16 h.1 hj
  rw [goBit16_eq hj, ← shl16 hj] at st
  refine ⟨st.1, fun v hv => ?_⟩
  rw [st.2]
  by_cases he : v = j
  · subst he; rw [fupd_at, if_pos rfl]
  · rw [fupd_ne _ _ he, if_neg he]; exact h.2 v hv
theorem pnumber_spec {p : Nat} {aa : Option Addr} {s : Pst} {K : Value → Mem → Prop} {m : Mem} (h : PaAt m p aa s) (hsz : s.arena.length ≤ 2 ^ 30)
    (hK : ∀ aa' m', m'.Ok → Kp (p :: blkOf aa) m m' → InS (blkOf aa) m (blkOf aa') → PaAt m' p aa' (pNumber s) → K (.tuple #[]) m') : callOK Tryz.prog W0 93 [ptr p 0] K m := by
  refine callOK_ok fun ok => call93 ?_
  have h0 := h
  obtain ⟨c, h⟩ := h
  have hv := h.rep.val
  unfold s93
  unfold pNumber at hK
  have one : ∀ {m' : Mem}, Kp [p] m m' → Kp (p :: blkOf aa) m m' := fun h => h.mono (by simp)
  refine ⟨_, h.so.val, ?_⟩
  dsimp only
  rw [hv.1]

  have litP : ¬ s.val > 12 → ¬ s.val = 0 → st m p 8 (.bool true) fun m_10 => ldBool m_10 p 3 fun y_11 => ifB y_11
      (ldInt .u16 m_10 p 6 fun x_12 => ldInt .i64 m_10 p 4 fun x_13 => (0 : Int) ≤ (IntKind.wrap .u64 x_13) ∧ st m_10 p 6 (.int .u16 (bOr .u16 x_12 (shlV .u16 1 (IntKind.wrap .u64 x_13)))) fun m_14 => K (.tuple #[]) m_14)
      (ldInt .u16 m_10 p 5 fun x_15 => ldInt .i64 m_10 p 4 fun x_16 => (0 : Int) ≤ (IntKind.wrap .u64 x_16) ∧ st m_10 p 5 (.int .u16 (bOr .u16 x_15 (shlV .u16 1 (IntKind.wrap .u64 x_16)))) fun m_17 => K (.tuple #[]) m_17) := by
    intro n12 n0
    rw [if_neg (fun h => n0 h.1), if_neg n12, if_neg n0] at hK
    refine h.so.st_open_ ok ?_
    intro m1 ok1 k1 b1
    refine ⟨_, b1.minus, ?_⟩
    dsimp only
    rw [h.rep.minus]
    refine ifB_of (fun hm => ?_) (fun hm => ?_)
    · rw [if_pos hm] at hK
      refine ⟨_, b1.neg, _, b1.val, wrap_u64_nonneg _, ?_⟩
      dsimp only
      rw [hv.1]
      refine b1.st_neg ok1 ?_
      intro m2 ok2 k2 b2
      exact hK aa m2 ok2 (one (k1.trans k2)) (InS.self _ _) ⟨_, h.set (k1.trans k2) b2 rfl ⟨h.rep.state, h.rep.start, h.rep.minus, h.rep.val, h.rep.pos, pset16 h.rep.neg (by omega), h.rep.del, rfl, h.rep.err, h.rep.at_⟩ rfl⟩
    · rw [if_neg (by rw [hm]; simp)] at hK
      refine ⟨_, b1.pos, _, b1.val, wrap_u64_nonneg _, ?_⟩
      dsimp only
      rw [hv.1]
      refine b1.st_pos ok1 ?_
      intro m2 ok2 k2 b2
      exact hK aa m2 ok2 (one (k1.trans k2)) (InS.self _ _) ⟨_, h.set (k1.trans k2) b2 rfl ⟨h.rep.state, h.rep.start, h.rep.minus, h.rep.val, pset16 h.rep.pos (by omega), h.rep.neg, h.rep.del, rfl, h.rep.err, h.rep.at_⟩ rfl⟩
  refine ifB_eq (fun hz => ?_) (fun hz => ?_)
  · have hz' : s.val = 0 := by omega
    refine ⟨_, h.so.minus, ?_⟩
    dsimp only
    rw [h.rep.minus]
    refine ifB_of (fun hm => ?_) (fun hm => ?_)
    · rw [if_pos ⟨hz', hm⟩] at hK
      refine ⟨_, h.so.start, ?_⟩
      dsimp only
      rw [h.rep.start]
      refine pfail_spec h0 ?_
      intro m1 ok1 k1 h1
      exact ⟨rfl, hK aa m1 ok1 (one k1) (InS.self _ _) h1⟩
    · rw [if_neg (fun h => by rw [hm] at h; simp at h), if_neg (by omega), if_pos hz'] at hK
      refine ⟨_, h.so.val, ?_⟩
      dsimp only
      rw [hv.1]
      refine ifB_gt (fun hg => ?_) (fun _ => ?_)
      · have hF : False := by omega
        cases hF
      refine ⟨_, h.so.val, ?_⟩
      dsimp only
      rw [hv.1]
      refine ifB_eq (fun _ => ?_) (fun h9 => absurd hz h9)
      refine endRow_spec h0 hsz ?_
      intro aa1 m1 ok1 k1 i1 h1
      exact ⟨rfl, hK aa1 m1 ok1 k1 i1 h1⟩
  · have hz' : ¬ s.val = 0 := by omega
    refine ⟨_, h.so.val, ?_⟩
    dsimp only
    rw [hv.1]
    refine ifB_gt (fun hg => ?_) (fun hg => ?_)
    · rw [if_neg (fun h => hz' h.1), if_pos (by omega)] at hK
      refine ⟨_, h.so.start, ?_⟩
      dsimp only
      rw [h.rep.start]
      refine pfail_spec h0 ?_
      intro m1 ok1 k1 h1
      exact ⟨rfl, hK aa m1 ok1 (one k1) (InS.self _ _) h1⟩
    · refine ⟨_, h.so.val, ?_⟩
      dsimp only
      rw [hv.1]
      refine ifB_eq (fun h9 => absurd h9 hz) (fun _ => ?_)
      exact litP (by omega) hz'

def pFeed (s : Pst) (c i : Nat) : Pst :=
  if s.state = 0 then pBegin s c i
  else if s.state = 1 then (if c = 10 then { s with state := 0 } else s)
  else if s.state = 2 then (if goClass c = 2 then { s with state := 3, val := c - 48 } else if goClass c = 1 then pFail s 3 s.start else pFail s 2 i)
  else if s.state = 3 then (if goClass c = 2 then { s with val := if s.val * 10 + (c - 48) > 12 then 13 else s.val * 10 + (c - 48) } else if goClass c = 1 then pNumber { s with state := 0 } else pFail s 2 i)
  else if s.state = 4 then (if goClass c = 1 then { s with state := 0 } else pFail s 2 i)
  else s
theorem feed_spec {p : Nat} {aa : Option Addr} {s : Pst} {c i : Nat} {K : Value → Mem → Prop} {m : Mem} (h : PaAt m p aa s) (hsz : s.arena.length ≤ 2 ^ 30)
    (hK : ∀ aa' m', m'.Ok → Kp (p :: blkOf aa) m m' → InS (blkOf aa) m (blkOf aa') → PaAt m' p aa' (pFeed s c i) → K (.tuple #[]) m') : callOK Tryz.prog W0 50 [ptr p 0, .int .u8 c, .int .i64 i] K m := by
  refine callOK_ok fun ok => call50 ?_
  have h0 := h
  obtain ⟨c0, h⟩ := h
  have hv := h.rep.val
  have one : ∀ {m' : Mem}, Kp [p] m m' → Kp (p :: blkOf aa) m m' := fun h => h.mono (by simp)
  unfold s50
  unfold pFeed at hK
  refine ⟨_, h.so.state, ?_⟩
  dsimp only
  rw [h.rep.state]
  have fl : ∀ e j : Int, (∀ aa' m', m'.Ok → Kp (p :: blkOf aa) m m' → InS (blkOf aa) m (blkOf aa') → PaAt m' p aa' (pFail s e j) → K (.tuple #[]) m') → callOK Tryz.prog W0 51 [ptr p 0, .int .i64 e, .int .i64 j] (fun rm m1 => rm = (.tuple #[]) ∧ K (.tuple #[]) m1) m := by
    intro e j hK'
    refine pfail_spec h0 ?_
    intro m1 ok1 k1 h1
    exact ⟨rfl, hK' aa m1 ok1 (one k1) (InS.self _ _) h1⟩
  have hdw := digit_wrap (c := c)
  have hdg := class_digit (c := c)
  refine ifB_eq (fun e => ?_) (fun e => ?_)
  · rw [if_pos (by omega)] at hK
    refine pbegin_spec h0 ?_
    intro m1 ok1 k1 h1
    exact ⟨rfl, hK aa m1 ok1 (one k1) (InS.self _ _) h1⟩
  · rw [if_neg (by omega)] at hK
    clear e
    refine ifB_eq (fun e => ?_) (fun e => ?_)
    · rw [if_pos (by omega)] at hK
      refine ifB_eq (fun e2 => ?_) (fun e2 => ?_)
      · rw [if_pos (by omega)] at hK
        refine h.so.st_state ok ?_
        intro m1 ok1 k1 b1
        exact hK aa m1 ok1 (one k1) (InS.self _ _) ⟨_, h.set k1 b1 rfl ⟨rfl, h.rep.start, h.rep.minus, h.rep.val, h.rep.pos, h.rep.neg, h.rep.del, h.rep.opn, h.rep.err, h.rep.at_⟩ rfl⟩
      · rw [if_neg (by omega)] at hK
        exact hK aa m ok (Kp.refl _ _) (InS.self _ _) h0
    · rw [if_neg (by omega)] at hK
      clear e
      refine ifB_eq (fun e => ?_) (fun e => ?_)
      · rw [if_pos (by omega)] at hK
        generalize goClass (c : Int) = k at hK hdw hdg ⊢
        refine ifB_eq (fun e2 => ?_) (fun e2 => ?_)
        · rw [if_pos e2] at hK
          have hd := hdg e2
          rw [hdw e2]
          refine h.so.st_state ok ?_
          intro m1 ok1 k1 b1
          refine b1.st_val ok1 ?_
          intro m2 ok2 k2 b2
          exact hK aa m2 ok2 (one (k1.trans k2)) (InS.self _ _) ⟨_, h.set (k1.trans k2) b2 rfl ⟨rfl, h.rep.start, h.rep.minus, ⟨rfl, by dsimp only; omega⟩, h.rep.pos, h.rep.neg, h.rep.del, h.rep.opn, h.rep.err, h.rep.at_⟩ rfl⟩
        · rw [if_neg e2] at hK
          refine ifB_eq (fun e3 => ?_) (fun e3 => ?_)
          · rw [if_pos e3] at hK
            refine ⟨_, h.so.start, ?_⟩
            dsimp only
            rw [h.rep.start]
            exact fl _ _ hK
          · rw [if_neg e3] at hK
            exact fl _ _ hK
      · rw [if_neg (by omega)] at hK
        clear e
        refine ifB_eq (fun e => ?_) (fun e => ?_)
        · rw [if_pos (by omega)] at hK
          generalize goClass (c : Int) = k at hK hdw hdg ⊢
          refine ifB_eq (fun e2 => ?_) (fun e2 => ?_)
          · rw [if_pos e2] at hK
            have hd := hdg e2
            rw [hdw e2]
            refine ⟨_, h.so.val, ?_⟩
            dsimp only
            rw [hv.1]
            have hw : IntKind.wrap .i64 (IntKind.wrap .i64 ((s.val : Int) * 10) + ((c - 48 : Nat) : Int)) = ((s.val * 10 + (c - 48) : Nat) : Int) := by
              rw [wrap_i64 (n := (s.val : Int) * 10) (by omega) (by omega), wrap_i64 (by omega) (by omega)]; omega
            rw [hw]
            refine h.so.st_val ok ?_
            intro m1 ok1 k1 b1
            refine ⟨_, b1.val, ?_⟩
            dsimp only
            refine ifB_gt (fun hg => ?_) (fun hg => ?_)
            · rw [if_pos (by omega)] at hK
              refine b1.st_val ok1 ?_
              intro m2 ok2 k2 b2
              exact hK aa m2 ok2 (one (k1.trans k2)) (InS.self _ _) ⟨_, h.set (k1.trans k2) b2 rfl ⟨h.rep.state, h.rep.start, h.rep.minus, ⟨rfl, by dsimp only; omega⟩, h.rep.pos, h.rep.neg, h.rep.del, h.rep.opn, h.rep.err, h.rep.at_⟩ rfl⟩
            · rw [if_neg (by omega)] at hK
              exact hK aa m1 ok1 (one k1) (InS.self _ _) ⟨_, h.set k1 b1 rfl ⟨h.rep.state, h.rep.start, h.rep.minus, ⟨rfl, by dsimp only; omega⟩, h.rep.pos, h.rep.neg, h.rep.del, h.rep.opn, h.rep.err, h.rep.at_⟩ rfl⟩
          · rw [if_neg e2] at hK
            refine ifB_eq (fun e3 => ?_) (fun e3 => ?_)
            · rw [if_pos e3] at hK
              refine h.so.st_state ok ?_
              intro m1 ok1 k1 b1
              have h1 : PaAt m1 p aa { s with state := 0 } := ⟨_, h.set k1 b1 rfl ⟨rfl, h.rep.start, h.rep.minus, h.rep.val, h.rep.pos, h.rep.neg, h.rep.del, h.rep.opn, h.rep.err, h.rep.at_⟩ rfl⟩
              refine pnumber_spec h1 hsz ?_
              intro aa2 m2 ok2 k2 i2 h2
              exact ⟨rfl, hK aa2 m2 ok2 ((one k1).trans k2) ((InS.self _ _).trans i2 k1.top) h2⟩
            · rw [if_neg e3] at hK
              exact fl _ _ hK
        · rw [if_neg (by omega)] at hK
          clear e
          refine ifB_eq (fun e => ?_) (fun e => ?_)
          · rw [if_pos (by omega)] at hK
            refine ifB_eq (fun e3 => ?_) (fun e3 => ?_)
            · rw [if_pos e3] at hK
              refine h.so.st_state ok ?_
              intro m1 ok1 k1 b1
              exact hK aa m1 ok1 (one k1) (InS.self _ _) ⟨_, h.set k1 b1 rfl ⟨rfl, h.rep.start, h.rep.minus, h.rep.val, h.rep.pos, h.rep.neg, h.rep.del, h.rep.opn, h.rep.err, h.rep.at_⟩ rfl⟩
            · rw [if_neg e3] at hK
              exact fl _ _ hK
          · rw [if_neg (by omega)] at hK
            exact hK aa m ok (Kp.refl _ _) (InS.self _ _) h0
end Go.Proofs.Qxb6500974aGreat
