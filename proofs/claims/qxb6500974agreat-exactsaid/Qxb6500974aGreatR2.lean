import Derived.Test.Qxb6500974aGreatR1
set_option linter.all false
set_option linter.unusedSimpArgs false
set_option linter.unusedVariables false
namespace Go.Proofs.Qxb6500974aGreat
open Go.Eng
variable {W0 : World}

theorem take_snoc {α : Type} {l : List α} {k : Nat} (h : k < l.length) : l.take (k + 1) = l.take k ++ [l[k]] := by
  rw [List.take_add_one]; simp [h]
theorem popTo_spec {b : Nat} {c : TrC} {es : List Ent} {n : Nat} {K : Value → Mem → Prop} {m : Mem} (h1 : TrB m b c) (h2 : TrRep0 c es) (hl : ∀ e ∈ es, goGoodLit e.lit = true) (hv : es.Pairwise fun a b => a.lit.natAbs ≠ b.lit.natAbs) (hlen : es.length ≤ 12) (hn : n ≤ es.length)
    (hcur : 0 ≤ c.cursor ∧ c.cursor ≤ 12)
    (hK : ∀ m' c', m'.Ok → Kp [b] m m' → TrB m' b c' → TrRep0 c' (es.take n) → c'.cursor = (if c.cursor > n then (n : Int) else c.cursor) → c'.depth = c.depth → c'.lim = c.lim → K (.tuple #[]) m') :
    callOK Tryz.prog W0 94 [ptr b 0, .int .i64 n] K m := by
  refine callOK_ok fun ok => call94 ?_
  unfold s94
  refine loop94_1 (γ := Nat × TrC) (fun g m' => g.1 ≤ es.length ∧ n ≤ g.1 ∧ m'.Ok ∧ Kp [b] m m' ∧ TrB m' b g.2 ∧ TrRep0 g.2 (es.take g.1) ∧ g.2.cursor = c.cursor ∧ g.2.depth = c.depth ∧ g.2.lim = c.lim) (fun g => g.1) (es.length, c)
    ⟨Nat.le_refl _, hn, ok, Kp.refl _ _, h1, by simpa using h2, rfl, rfl, rfl⟩ ?_
  rintro ⟨k, c1⟩ m1 ⟨hk, hnk, ok1, kp1, b1, r1, e1, e2, e3⟩
  dsimp only at hk hnk b1 r1 e1 e2 e3 ⊢
  have ht := r1.top
  rw [List.length_take, Nat.min_eq_left hk] at ht
  unfold s94_1
  refine ⟨_, b1.top, ?_⟩
  rw [ht]
  refine ifB_gt (fun hgt => ?_) (fun hgt => ?_)
  · obtain ⟨k, rfl⟩ : ∃ k', k = k' + 1 := ⟨k - 1, by omega⟩
    have hkl : k < es.length := by omega
    refine ⟨_, b1.top, ?_⟩
    rw [ht]
    have hw : IntKind.wrap .i64 (((k + 1 : Nat) : Int) - 1) = (k : Int) := by rw [wrap_i64 (by omega) (by omega)]; omega
    dsimp only
    rw [hw]
    refine b1.st_top ok1 ?_
    intro m2 ok2 kp2 b2
    refine ⟨_, b2.top, by dsimp only; omega, by dsimp only; omega, ?_⟩
    dsimp only
    simp only [Int.toNat_natCast]
    have hst : c1.stack k = es[k].lit := r1.stack k es[k] (by rw [List.getElem?_take, if_pos (by omega)]; simp [hkl])
    refine ⟨_, b2.stack (by omega), ?_⟩
    dsimp only
    rw [hst]
    have hg := good_abs (hl es[k] (List.getElem_mem hkl))
    rw [hg.2.2.2.2]
    generalize hv0 : es[k].lit.natAbs = v at hg
    refine ⟨by omega, by omega, ?_⟩
    simp only [Int.toNat_natCast]
    refine b2.st_val ok2 (by omega) ?_
    intro m3 ok3 kp3 b3
    refine ⟨by omega, by omega, ?_⟩
    simp only [Int.toNat_natCast]
    refine b3.st_level ok3 (by omega) ?_
    intro m4 ok4 kp4 b4
    refine ⟨by omega, by omega, ?_⟩
    simp only [Int.toNat_natCast]
    refine b4.st_reason ok4 (by omega) ?_
    intro m5 ok5 kp5 b5
    refine ⟨by omega, by omega, ?_⟩
    simp only [Int.toNat_natCast]
    refine b5.st_place ok5 (by omega) ?_
    intro m6 ok6 kp6 b6
    refine ⟨_, b6.pops, ?_⟩
    refine b6.st_pops ok6 ?_
    intro m7 ok7 kp7 b7
    refine ⟨(k, _), rfl, ⟨by dsimp only; omega, by dsimp only; omega, ok7, (((((kp1.trans kp2).trans kp3).trans kp4).trans kp5).trans kp6).trans kp7, b7, ?_, e1, e2, e3⟩, by dsimp only; omega⟩
    dsimp only
    have htk := take_snoc hkl
    have hno : entOf (es.take k) v = none := by
      rw [entOf_none]
      intro e he h0
      rw [List.pairwise_iff_getElem] at hv
      obtain ⟨i, hi, rfl⟩ := List.mem_iff_getElem.1 he
      simp only [List.length_take] at hi
      rw [List.getElem_take] at h0
      exact hv i k (by omega) hkl (by omega) (by omega)
    have hent : ∀ u, entOf (es.take (k + 1)) u = if u = v then some es[k] else entOf (es.take k) u := by
      intro u
      rw [htk, entOf_append]
      simp only [entOf]
      by_cases hu : u = v
      · subst hu; rw [hno, if_pos hv0, if_pos rfl]; rfl
      · rw [if_neg (fun h0 => hu (by rw [← h0, hv0])), if_neg hu]; simp
    refine ⟨by simp; omega, ?_, ?_, ?_, ?_, ?_⟩
    · intro i e hi
      refine r1.stack i e ?_
      rw [List.getElem?_take] at hi ⊢
      split at hi
      · rw [if_pos (by omega)]; exact hi
      · cases hi
    · intro u hu
      dsimp only
      by_cases hu2 : u = v
      · subst hu2; rw [fupd_at, hno]; rfl
      · rw [fupd_ne _ _ hu2, r1.val u hu, hent, if_neg hu2]
    · intro u hu
      dsimp only
      by_cases hu2 : u = v
      · subst hu2; rw [fupd_at, hno]; rfl
      · rw [fupd_ne _ _ hu2, r1.level u hu, hent, if_neg hu2]
    · intro u hu
      dsimp only
      by_cases hu2 : u = v
      · subst hu2; rw [fupd_at, hno]; rfl
      · rw [fupd_ne _ _ hu2, r1.reason u hu, hent, if_neg hu2]
    · intro u hu
      dsimp only
      by_cases hu2 : u = v
      · subst hu2; rw [fupd_at, plcOf_none (entOf_none.1 hno)]
      · rw [fupd_ne _ _ hu2, r1.place u hu, htk, plcOf_append]
        split
        · rename_i hn0
          rw [plcOf_none (entOf_none.1 hn0)]
          simp only [plcOf]
          rw [if_neg (fun h0 => hu2 (by rw [← h0, hv0]))]
        · rfl
  · rw [e94_1x0]
    have : k = n := by omega
    subst this
    unfold s94_1x0
    refine ⟨_, b1.cursor, _, b1.top, ?_⟩
    rw [ht, e1]
    refine ifB_gt (fun hgt2 => ?_) (fun hgt2 => ?_)
    · refine ⟨_, b1.top, ?_⟩
      rw [ht]
      refine b1.st_cursor ok1 ?_
      intro m2 ok2 kp2 b2
      refine hK m2 _ ok2 (kp1.trans kp2) b2 ⟨?_, r1.stack, r1.val, r1.level, r1.reason, r1.place⟩ ?_ e2 e3
      · exact r1.top
      · dsimp only; rw [if_pos hgt2]
    · refine hK m1 _ ok1 kp1 b1 r1 ?_ e2 e3
      rw [e1, if_neg (by omega)]

def Tr.empty : Tr := ⟨[], 0, 0⟩
theorem Tr.empty_good : Tr.empty.Good := ⟨by simp [Tr.empty], by simp [Tr.empty], by simp [Tr.empty], by simp [Tr.empty], rfl⟩
theorem treset_spec {b : Nat} {t : Tr} {K : Value → Mem → Prop} {m : Mem} (h : TrAt m b t) (hK : ∀ m', m'.Ok → Kp [b] m m' → TrAt m' b Tr.empty → K (.tuple #[]) m') : callOK Tryz.prog W0 53 [ptr b 0] K m := by
  refine callOK_ok fun ok => call53 ?_
  obtain ⟨g, c, h1, h2⟩ := h
  have hc := g.cur; have hl := g.len
  unfold s53
  refine popTo_spec (n := 0) h1 h2.zero g.lits g.vars g.len (by omega) (by rw [h2.cursor]; omega) ?_
  intro m1 c1 ok1 kp1 b1 r1 e1 e2 e3
  refine ⟨rfl, ?_⟩
  refine b1.st_depth ok1 ?_
  intro m2 ok2 kp2 b2
  refine hK m2 ok2 (kp1.trans kp2) ⟨Tr.empty_good, _, b2, ?_⟩
  have e1' : c1.cursor = 0 := by
    rw [e1, h2.cursor]
    split <;> omega
  refine ⟨r1.top, e1', rfl, by intro i e hi; simp [Tr.empty] at hi, r1.val, r1.level, r1.reason, r1.place, ?_⟩
  intro k h1 h2
  simp only [Tr.empty] at h2
  omega

theorem takeWhile_stop {α : Type} {p : α → Bool} : ∀ {l : List α} {x : α}, (∀ y ∈ l, p y = true) → p x = false → (l ++ [x]).takeWhile p = l
  | [], x, _, hx => by simp [List.takeWhile_cons, hx]
  | y :: ys, x, h, hx => by
    rw [List.cons_append, List.takeWhile_cons_of_pos (h y (by simp)), takeWhile_stop (fun z hz => h z (by simp [hz])) hx]
def Tr.decide (t : Tr) (l : Int) : Tr := { es := t.es ++ [⟨l, t.dep + 1, -1⟩], cur := t.cur, dep := t.dep + 1 }
theorem Tr.Good.decide {t : Tr} (g : t.Good) {l : Int} (hl : goGoodLit l = true) (ho : entOf t.es l.natAbs = none) (hlen : t.es.length < 12) : (t.decide l).Good := by
  refine ⟨?_, ?_, ?_, ?_, ?_⟩
  · intro e he
    simp only [Tr.decide, List.mem_append, List.mem_cons, List.not_mem_nil, or_false] at he
    rcases he with he | rfl
    · exact g.lits e he
    · exact hl
  · simp only [Tr.decide]
    rw [List.pairwise_append]
    refine ⟨g.vars, by simp, ?_⟩
    intro a ha b hb
    simp at hb
    subst hb
    exact entOf_none.1 ho a ha
  · have := g.cur; simp [Tr.decide]; omega
  · simp [Tr.decide]; omega
  · exact stair_snoc g.st (.inr rfl)
theorem decide_spec {b : Nat} {t : Tr} {l : Int} {K : Value → Mem → Prop} {m : Mem} (h : TrAt m b t) (hl : goGoodLit l = true) (ho : entOf t.es l.natAbs = none)
    (hK : ∀ m', m'.Ok → Kp [b] m m' → TrAt m' b (t.decide l) → K (.int .i64 0) m') : callOK Tryz.prog W0 35 [ptr b 0, .int .i64 l] K m := by
  refine callOK_ok fun ok => call35 ?_
  obtain ⟨g, c, h1, h2⟩ := h
  have ha := good_abs hl
  have hlen := g.room ⟨ha.2.1, ha.2.2.1⟩ ho
  have hdep := (stair_le g.st).2.1
  unfold s35
  refine ifB_not (fun h0 => by rw [hl] at h0; cases h0) (fun _ => ?_)
  rw [ha.2.2.2.2]
  refine ⟨by omega, by omega, ?_⟩
  simp only [Int.toNat_natCast]
  refine ⟨_, h1.val (by omega), ?_⟩
  rw [h2.val _ (by omega), ho]
  refine ifB_ne (fun h0 => absurd rfl h0) (fun _ => ?_)
  refine ⟨_, h1.depth, ?_⟩
  rw [h2.depth]
  dsimp only
  rw [wrapS t.dep (by omega)]
  refine h1.st_depth ok ?_
  intro m1 ok1 kp1 b1
  refine ⟨_, b1.depth, _, b1.top, ?_⟩
  dsimp only
  refine ⟨by omega, by omega, ?_⟩
  simp only [Int.toNat_natCast]
  refine b1.st_lim ok1 (by omega) ?_
  intro m2 ok2 kp2 b2
  rw [← ha.2.2.2.2]
  refine join_raw b2 (es := t.es) ⟨h2.top, h2.stack, h2.val, h2.level, h2.reason, h2.place⟩ (d := t.dep + 1) rfl hl ho hlen ?_
  intro m3 c3 ok3 kp3 b3 r3 e1 e2 e3
  refine ⟨rfl, hK m3 ok3 ((kp1.trans kp2).trans kp3) ⟨g.decide hl ho hlen, c3, b3, ?_⟩⟩
  refine ⟨r3.top, by rw [e1]; exact h2.cursor, by rw [e2]; rfl, r3.stack, r3.val, r3.level, r3.reason, r3.place, ?_⟩
  intro k hk0 hk
  rw [e3]
  dsimp only
  simp only [Tr.decide] at hk ⊢
  by_cases hkd : k = t.dep + 1
  · subst hkd
    rw [fupd_at, h2.top]
    have : limOf (t.es ++ [⟨l, t.dep + 1, -1⟩]) (t.dep + 1) = t.es.length := by
      unfold limOf
      rw [takeWhile_stop]
      · intro e he
        have := (stair_le g.st).2.2 e he
        simp; omega
      · simp
    rw [this]
  · rw [fupd_ne _ _ hkd, limOf_snoc g.st (by omega) hk0]
    exact h2.lim k hk0 (by omega)
theorem valE_zero {o : Option Ent} : valE o = 0 ↔ o = none := by
  cases o with
  | none => simp [valE]
  | some e => simp only [valE]; split <;> simp
theorem assign_spec {b : Nat} {t : Tr} {l r : Int} {K : Value → Mem → Prop} {m : Mem} (h : TrAt m b t) (hl : goGoodLit l = true) (hr : -1 ≤ r) (ho : entOf t.es l.natAbs = none)
    (hK : ∀ m', m'.Ok → Kp [b] m m' → TrAt m' b (t.join l r) → K (.int .i64 0) m') : callOK Tryz.prog W0 136 [ptr b 0, .int .i64 l, .int .i64 r] K m := by
  refine callOK_ok fun ok => call136 ?_
  have h' := h
  obtain ⟨g, c, h1, h2⟩ := h
  have ha := good_abs hl
  unfold s136
  refine ifB_not (fun h0 => by rw [hl] at h0; cases h0) (fun _ => ?_)
  refine ifB_lt (fun h0 => ?_) (fun _ => ?_)
  · have hF : False := by omega
    cases hF
  rw [ha.2.2.2.2]
  refine ⟨by omega, by omega, ?_⟩
  simp only [Int.toNat_natCast]
  refine ⟨_, h1.val (by omega), ?_⟩
  rw [h2.val _ (by omega), ho]
  refine ifB_ne (fun h0 => absurd rfl h0) (fun _ => ?_)
  rw [← ha.2.2.2.2]
  refine join_spec h' hl ho ?_
  intro m1 ok1 kp1 t1
  exact ⟨rfl, hK m1 ok1 kp1 t1⟩

def Tr.back (t : Tr) (k : Nat) : Tr := { es := t.es.takeWhile fun e => Decidable.decide (e.lev < k + 1), cur := min t.cur (limOf t.es (k + 1)), dep := k }
theorem takeWhile_take {α : Type} {p : α → Bool} (l : List α) : l.takeWhile p = l.take (l.takeWhile p).length := by
  have := List.prefix_iff_eq_take.1 (List.takeWhile_prefix (l := l) p)
  exact this
theorem takeWhile_takeWhile {α : Type} {p q : α → Bool} (h : ∀ x, q x = true → p x = true) : ∀ l : List α, (l.takeWhile p).takeWhile q = l.takeWhile q
  | [] => rfl
  | x :: xs => by
    by_cases hp : p x = true
    · rw [List.takeWhile_cons_of_pos hp]
      by_cases hq : q x = true
      · rw [List.takeWhile_cons_of_pos hq, List.takeWhile_cons_of_pos hq, takeWhile_takeWhile h xs]
      · rw [List.takeWhile_cons_of_neg hq, List.takeWhile_cons_of_neg hq]
    · have hq : ¬ q x = true := fun h0 => hp (h x h0)
      rw [List.takeWhile_cons_of_neg hp, List.takeWhile_cons_of_neg hq]; rfl
theorem Tr.Good.back {t : Tr} (g : t.Good) {k : Nat} (hk : k ≤ t.dep) : (t.back k).Good := by
  have hsub : (t.back k).es.Sublist t.es := List.takeWhile_sublist _
  refine ⟨fun e he => g.lits e (hsub.subset he), g.vars.sublist hsub, ?_, Nat.le_trans hsub.length_le g.len, stair_cut g.st (by omega) hk⟩
  simp only [Tr.back]
  exact Nat.min_le_right _ _
theorem Tr.Good.back_self {t : Tr} (g : t.Good) : t.back t.dep = t := by
  have h1 : (t.es.takeWhile fun e => Decidable.decide (e.lev < t.dep + 1)) = t.es := takeWhile_all fun e he => by
    have := (stair_le g.st).2.2 e he
    simp; omega
  have h2 : limOf t.es (t.dep + 1) = t.es.length := limOf_all g.st (by omega)
  unfold Tr.back
  rw [h1, h2, Nat.min_eq_left g.cur]
theorem backjump_spec {b : Nat} {t : Tr} {k : Nat} {K : Value → Mem → Prop} {m : Mem} (h : TrAt m b t) (hk : k ≤ t.dep)
    (hK : ∀ m', m'.Ok → Kp [b] m m' → TrAt m' b (t.back k) → K (.int .i64 0) m') : callOK Tryz.prog W0 113 [ptr b 0, .int .i64 k] K m := by
  refine callOK_ok fun ok => call113 ?_
  have h' := h
  obtain ⟨g, c, h1, h2⟩ := h
  have hdep := (stair_le g.st).2.1
  have hl := g.len
  have hc := g.cur
  unfold s113
  refine ifB_lt (fun h0 => ?_) (fun _ => ?_)
  · have hF : False := by omega
    cases hF
  refine ⟨_, h1.depth, ?_⟩
  rw [h2.depth]
  refine ifB_gt (fun h0 => ?_) (fun _ => ?_)
  · have hF : False := by omega
    cases hF
  refine ⟨_, h1.depth, ?_⟩
  rw [h2.depth]
  refine ifB_lt (fun hlt => ?_) (fun hge => ?_)
  · rw [wrapS k (by omega)]
    refine ⟨by omega, by omega, ?_⟩
    simp only [Int.toNat_natCast]
    refine ⟨_, h1.lim (by omega), ?_⟩
    rw [h2.lim (k + 1) (by omega) (by omega)]
    have hle : limOf t.es (k + 1) ≤ t.es.length := (List.takeWhile_sublist _).length_le
    refine popTo_spec h1 h2.zero g.lits g.vars g.len hle (by rw [h2.cursor]; omega) ?_
    intro m1 c1 ok1 kp1 b1 r1 e1 e2 e3
    refine ⟨rfl, ?_⟩
    refine b1.st_depth ok1 ?_
    intro m2 ok2 kp2 b2
    have hes : t.es.take (limOf t.es (k + 1)) = (t.back k).es := (takeWhile_take t.es).symm
    rw [hes] at r1
    refine hK m2 ok2 (kp1.trans kp2) ⟨g.back hk, _, b2, ?_⟩
    refine ⟨r1.top, ?_, rfl, r1.stack, r1.val, r1.level, r1.reason, r1.place, ?_⟩
    · dsimp only
      rw [e1, h2.cursor]
      simp only [Tr.back]
      split <;> omega
    · intro j hj0 hj
      dsimp only
      simp only [Tr.back] at hj ⊢
      rw [e3, h2.lim j hj0 (by omega)]
      unfold limOf
      rw [takeWhile_takeWhile]
      intro x hx
      simp at hx ⊢
      omega
  · have : k = t.dep := by omega
    subst this
    refine hK m ok (Kp.refl _ _) ?_
    rw [g.back_self]
    exact h'
def Tr.take (t : Tr) : Tr := { t with cur := t.cur + 1 }
theorem ttake_spec {b : Nat} {t : Tr} {K : Value → Mem → Prop} {m : Mem} (h : TrAt m b t) (hc : t.cur < t.es.length)
    (hK : ∀ l m', m'.Ok → Kp [b] m m' → TrAt m' b t.take → K (.int .i64 l) m') : callOK Tryz.prog W0 103 [ptr b 0] K m := by
  refine callOK_ok fun ok => call103 ?_
  obtain ⟨g, c, h1, h2⟩ := h
  have hl := g.len
  unfold s103
  refine ⟨_, h1.cursor, _, h1.top, ?_⟩
  rw [h2.cursor, h2.top]
  refine ifB_ge (fun h0 => ?_) (fun _ => ?_)
  · have hF : False := by omega
    cases hF
  refine ⟨_, h1.cursor, ?_⟩
  rw [h2.cursor]
  refine ⟨by omega, by omega, _, h1.stack (by omega), _, h1.cursor, ?_⟩
  rw [h2.cursor]
  dsimp only
  rw [wrapS t.cur (by omega)]
  refine h1.st_cursor ok ?_
  intro m1 ok1 kp1 b1
  refine hK _ m1 ok1 kp1 ⟨⟨g.lits, g.vars, by simp [Tr.take]; omega, g.len, g.st⟩, _, b1, ?_⟩
  exact ⟨h2.top, rfl, h2.depth, h2.stack, h2.val, h2.level, h2.reason, h2.place, h2.lim⟩
end Go.Proofs.Qxb6500974aGreat
