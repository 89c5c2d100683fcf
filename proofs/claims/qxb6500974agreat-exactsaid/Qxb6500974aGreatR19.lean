import Derived.Test.Qxb6500974aGreatR18
set_option linter.all false
set_option linter.unusedSimpArgs false
set_option linter.unusedVariables false
namespace Go.Proofs.Qxb6500974aGreat
open Go.Eng
variable {W0 : World}

def flatOf : List (Bool × List Int) → List Int
  | [] => []
  | r :: rs => (if r.1 = true then [13] else []) ++ (r.2 ++ 0 :: flatOf rs)
theorem zero131 : zeroBlk Tryz.prog 131 = Blk.ofList [(.int .u16 0), (.int .u16 0), (.bool false), (.int .i64 0)] := by kernel_rfl
theorem zero41 : zeroBlk Tryz.prog 41 = Blk.ofList [(.int .i64 0), (.int .i64 0), (.int .i64 0)] := by kernel_rfl

structure RowB (m : Mem) (b : Nat) (p n : Int) (d : Bool) (x : Int) : Prop where
  bk : BlkN m b 4
  p : m.cell b 0 = some (.int .u16 p)
  n : m.cell b 1 = some (.int .u16 n)
  d : m.cell b 2 = some (.bool d)
  x : m.cell b 3 = some (.int .i64 x)
theorem RowB.keep {X : List Nat} {m m' : Mem} {b : Nat} {p n : Int} {d : Bool} {x : Int} (h : RowB m b p n d x) (hk : Kp X m m') (hb : b ∉ X) : RowB m' b p n d x :=
  ⟨h.bk.keep hk hb, hk.cell hb h.p, hk.cell hb h.n, hk.cell hb h.d, hk.cell hb h.x⟩
theorem row_st {m : Mem} {b j : Nat} {p n : Int} {d : Bool} {x : Int} {v : Value} {K : Mem → Prop} (ok : m.Ok) (h : RowB m b p n d x) (hj : j < 4)
    (hK : ∀ m', m'.Ok → Kp [b] m m' → BlkN m' b 4 → (∀ i, i ≠ j → m'.cell b i = m.cell b i) → m'.cell b j = some v → K m') : st m b j v K := by
  obtain ⟨⟨f, f1, f2, f3⟩, _⟩ := h
  refine ⟨f, f1, f2, f3 j hj, ?_⟩
  refine hK _ (ok.setB f1) (Kp.setB (S := [b]) f1 f2 (f.upd j v) (by simp)) ⟨_, Mem.setB_at _ _ _, f2, ?_⟩ ?_ ?_
  · intro i hi
    simp only [Blk.upd]
    split
    · rfl
    · exact f3 i hi
  · intro i hi
    simp only [Mem.cell, Mem.setB_at, f1, Blk.upd]
    show (if i = j then some v else f.cell i) = f.cell i
    rw [if_neg hi]
  · simp only [Mem.cell, Mem.setB_at, Blk.upd]; simp
theorem stl4u {m : Mem} {b : Nat} {x0 x1 x3 : Int} {x2 : Bool} {K : Value → Mem → Prop} (ok : m.Ok) (h : BlkN m b 4)
    (hK : ∀ m', m'.Ok → Kp [b] m m' → K (.agg #[(.int .u16 x0), (.int .u16 x1), (.bool x2), (.int .i64 x3)]) m') :
    stL m b 0 [(.int .u16 x0), (.int .u16 x1), (.bool x2), (.int .i64 x3)] fun m1 =>
      ldInt .u16 m1 b 0 fun y0 => ldInt .u16 m1 b 1 fun y1 => ldBool m1 b 2 fun y2 => ldInt .i64 m1 b 3 fun y3 => K (.agg #[(.int .u16 y0), (.int .u16 y1), (.bool y2), (.int .i64 y3)]) m1 := by
  refine stL_put ok h (by simp) (by intro v hv; simp at hv; rcases hv with rfl | rfl | rfl | rfl <;> rfl) (by simp) ?_
  intro m' ok' kp' row' _
  obtain ⟨r0, r1, r2, r3, _⟩ := row'
  exact ⟨_, r0, _, r1, _, r2, _, r3, hK m' ok' kp'⟩
theorem RowBits.pos {p n : Int} {l : List Int} {v : Nat} (h : RowBits p n l) (hv : 1 ≤ v ∧ v ≤ 12) : RowBits (bOr .u16 p (goBitOf (v : Int))) n (l ++ [(v : Int)]) := by
  rw [goBitOf_eq (by omega)]
  have oo := u16_or h.1.1 (u16_pow (j := v - 1) (by omega))
  refine ⟨⟨oo.1, fun i hi => ?_⟩, ⟨h.2.1, fun i hi => ?_⟩⟩
  · rw [oo.2, tb_pow, h.1.2 i hi, Bool.eq_iff_iff]
    simp only [Bool.or_eq_true, decide_eq_true_eq, List.mem_append, List.mem_singleton]
    exact ⟨fun h0 => h0.orMap id (fun h1 => by omega), fun h0 => h0.orMap id (fun h1 => by omega)⟩
  · rw [h.2.2 i hi, Bool.eq_iff_iff]
    simp only [decide_eq_true_eq, List.mem_append, List.mem_singleton]
    exact ⟨fun h0 => .inl h0, fun h0 => h0.resolve_right (by omega)⟩
theorem RowBits.neg {p n : Int} {l : List Int} {v : Nat} (h : RowBits p n l) (hv : 1 ≤ v ∧ v ≤ 12) : RowBits p (bOr .u16 n (goBitOf (v : Int))) (l ++ [-(v : Int)]) := by
  rw [goBitOf_eq (by omega)]
  have oo := u16_or h.2.1 (u16_pow (j := v - 1) (by omega))
  refine ⟨⟨h.1.1, fun i hi => ?_⟩, ⟨oo.1, fun i hi => ?_⟩⟩
  · rw [h.1.2 i hi, Bool.eq_iff_iff]
    simp only [decide_eq_true_eq, List.mem_append, List.mem_singleton]
    exact ⟨fun h0 => .inl h0, fun h0 => h0.resolve_right (by omega)⟩
  · rw [oo.2, tb_pow, h.2.2 i hi, Bool.eq_iff_iff]
    simp only [Bool.or_eq_true, decide_eq_true_eq, List.mem_append, List.mem_singleton]
    exact ⟨fun h0 => h0.orMap id (fun h1 => by omega), fun h0 => h0.orMap id (fun h1 => by omega)⟩
theorem getD_append_len {α : Type} (a b : List α) (x d : α) : (a ++ x :: b).getD a.length d = x := by simp [List.getD]
theorem read_spec {a : Option Addr} {n cc at_ : Nat} {flat : List Int} {r : Bool × List Int} {pre tl : List Int} {K : Value → Mem → Prop} {m : Mem} (hf : FzI m a n flat) (hlen : flat.length < 2 ^ 40) (hfl : flat = pre ++ flatOf [r] ++ tl) (hat : at_ = pre.length) (hl : NF r.2)
    (hK : ∀ p q m', m'.Ok → Kp [] m m' → RowBits p q r.2 → K (.agg #[(.int .u16 p), (.int .u16 q), (.bool r.1), (.int .i64 ((at_ + (flatOf [r]).length : Nat) : Int))]) m') : callOK Tryz.prog W0 69 [.slice a n cc, .int .i64 at_] K m := by
  refine callOK_ok fun ok => call69 ?_
  have hn := hf.len
  obtain ⟨d, l⟩ := r
  dsimp only at hl hK hfl
  have hfo : flatOf [(d, l)] = (if d = true then [13] else []) ++ (l ++ [0]) := rfl
  unfold s69
  rw [zero131]
  intro b1 hb1
  have hk1 := Kp.new (S := []) ok hb1 (Blk.ofList [(.int .u16 0), (.int .u16 0), (.bool false), (.int .i64 0)])
  have bn1 : BlkN (m.new b1 (Blk.ofList [(.int .u16 0), (.int .u16 0), (.bool false), (.int .i64 0)])) b1 4 := BlkN.new b1 (by simp)
  have ok1 := ok.new hb1 (Blk.ofList [(.int .u16 0), (.int .u16 0), (.bool false), (.int .i64 0)])
  generalize m.new b1 (Blk.ofList [(.int .u16 0), (.int .u16 0), (.bool false), (.int .i64 0)]) = m1 at hk1 bn1 ok1
  have lt1 := bn1.lt ok1
  intro b3 hb3
  have hk3 := Kp.new (S := []) ok1 hb3 (Blk.ofList [(.int .u16 0), (.int .u16 0), (.bool false), (.int .i64 0)])
  have bn3 : BlkN (m1.new b3 (Blk.ofList [(.int .u16 0), (.int .u16 0), (.bool false), (.int .i64 0)])) b3 4 := BlkN.new b3 (by simp)
  have ok3 := ok1.new hb3 (Blk.ofList [(.int .u16 0), (.int .u16 0), (.bool false), (.int .i64 0)])
  generalize m1.new b3 (Blk.ofList [(.int .u16 0), (.int .u16 0), (.bool false), (.int .i64 0)]) = m3 at hk3 bn3 ok3
  have top1 := hk1.top
  have kk3 := hk1.trans hk3
  refine stL_put ok3 bn3 (by simp) (by intro v hv; simp at hv; rcases hv with rfl | rfl | rfl | rfl <;> rfl) (by simp) ?_
  intro m4 ok4 kp4 row4 bn4
  have wr3 : ∀ {m5 m6 : Mem}, Kp [] m m5 → Kp [b3] m5 m6 → Kp [] m m6 := fun h h' => h.step h' ok (fun b' hb' => .inr (by simp at hb'; omega))
  have wr1 : ∀ {m5 m6 : Mem}, Kp [] m m5 → Kp [b1] m5 m6 → Kp [] m m6 := fun h h' => h.step h' ok (fun b' hb' => .inr (by simp at hb'; omega))
  have kk4 := wr3 kk3 kp4
  have hr4 : RowB m4 b3 0 0 false 0 := by
    obtain ⟨r0, r1, r2, r3, _⟩ := row4
    exact ⟨bn4, r0, r1, r2, r3⟩
  have n13 : b1 ∉ [b3] := by simp; omega
  have bn14 := (bn1.keep hk3 (by simp)).keep kp4 n13

  obtain ⟨q0, hq0⟩ : ∃ q0, pre ++ (if d = true then [13] else []) = q0 := ⟨_, rfl⟩
  have hfl2 : flat = q0 ++ (l ++ 0 :: tl) := by rw [hfl, hfo, ← hq0]; simp
  have hfin : at_ + (flatOf [(d, l)]).length = q0.length + l.length + 1 := by rw [hfo, ← hq0, hat]; simp; omega
  rw [hfin] at hK
  have hll := hl.len
  have key := fun (m5 : Mem) (ok5 : m5.Ok) (kp5 : Kp [] m m5) (hr5 : RowB m5 b3 0 0 d 0) (bn15 : BlkN m5 b1 4) =>
    loop69_1 (C := callOK Tryz.prog W0) (flat0a := a) (flat0l := n) (flat0c := cc) (t4 := b1) (r5 := b3) (at1 := ((q0.length : Nat) : Int)) (K := K) (m := m5) (γ := Nat × Int × Int)
      (fun g at1 m' => at1 = ((q0.length + g.1 : Nat) : Int) ∧ g.1 ≤ l.length ∧ m'.Ok ∧ Kp [] m m' ∧ RowB m' b3 g.2.1 g.2.2 d 0 ∧ BlkN m' b1 4 ∧ RowBits g.2.1 g.2.2 (l.take g.1)) (fun g _ => l.length - g.1) (0, 0, 0)
      ⟨rfl, by dsimp only; omega, ok5, kp5, hr5, bn15, by simpa using RowBits.nil⟩ (by
      rintro ⟨k, p, q⟩ at1 m6 ⟨rfl, hk, ok6, kp6, hr6, bn16, hb⟩
      dsimp only at hk hr6 hb ⊢
      have hf6 := hf.keep kp6
      have hlenf : flat.length = q0.length + (l.length + (1 + tl.length)) := by rw [hfl2]; simp; omega
      have hget : flat.getD (q0.length + k) 0 = (l ++ 0 :: tl).getD k 0 := by
        rw [hfl2]; simp [List.getD, List.getElem?_append_right]
      unfold s69_1
      refine ifB_lt (fun _ => ?_) (fun h0 => ?_)
      · refine hf6.sl.get (by omega) (by omega) fun _ _ _ => ?_
        simp only [Int.toNat_natCast]
        rw [hget]
        by_cases hkl : k < l.length
        · have hx : (l ++ 0 :: tl).getD k 0 = l.getD k 0 := by simp [List.getD, List.getElem?_append_left hkl]
          have gx := hl.1 _ (mem_getD hkl 0)
          rw [hx]
          have ha := good_abs gx
          refine ifB_ne (fun _ => ?_) (fun h0 => ?_)
          case refine_2 =>
            have hF : False := ha.1 h0
            cases hF
          refine hf6.sl.get (by omega) (by omega) fun _ _ _ => ?_
          have hgx := hget.trans hx
          simp only [Int.toNat_natCast, hgx]
          have htk := take_succ_getD hkl 0
          generalize l.getD k 0 = x at gx ha htk ⊢
          have hwk : IntKind.wrap .i64 (((q0.length + k : Nat) : Int) + 1) = ((q0.length + (k + 1) : Nat) : Int) := by rw [wrap_i64 (by omega) (by omega)]; omega
          rw [hwk]
          refine ifB_gt (fun hp => ?_) (fun hp => ?_)
          · obtain ⟨v, rfl⟩ : ∃ v : Nat, x = v := ⟨x.natAbs, by omega⟩
            refine ⟨_, hr6.p, ?_⟩
            refine row_st ok6 hr6 (by omega) ?_
            intro m7 ok7 kp7 bk7 ho7 hc7
            refine ⟨(k + 1, _, q), _, rfl, ⟨rfl, by dsimp only; omega, ok7, wr3 kp6 kp7, ⟨bk7, hc7, by rw [ho7 1 (by omega)]; exact hr6.n, by rw [ho7 2 (by omega)]; exact hr6.d, by rw [ho7 3 (by omega)]; exact hr6.x⟩, bn16.keep kp7 n13, ?_⟩, by dsimp only; omega⟩
            dsimp only
            rw [htk]
            exact hb.pos (by omega)
          · obtain ⟨v, rfl⟩ : ∃ v : Nat, x = -(v : Int) := ⟨x.natAbs, by omega⟩
            have hwn : IntKind.wrap .i64 (0 - -(v : Int)) = (v : Int) := by rw [wrap_i64 (by omega) (by omega)]; omega
            rw [hwn]
            refine ⟨_, hr6.n, ?_⟩
            refine row_st ok6 hr6 (by omega) ?_
            intro m7 ok7 kp7 bk7 ho7 hc7
            refine ⟨(k + 1, p, _), _, rfl, ⟨rfl, by dsimp only; omega, ok7, wr3 kp6 kp7, ⟨bk7, by rw [ho7 0 (by omega)]; exact hr6.p, hc7, by rw [ho7 2 (by omega)]; exact hr6.d, by rw [ho7 3 (by omega)]; exact hr6.x⟩, bn16.keep kp7 n13, ?_⟩, by dsimp only; omega⟩
            dsimp only
            rw [htk]
            exact hb.neg (by omega)
        · have hkl2 : k = l.length := by omega
          subst hkl2
          rw [getD_append_len]
          with_reducible refine ifB_ne (fun h0 => absurd rfl h0) (fun _ => ?_)
          rw [e69_1x0]
          unfold s69_1x0
          have hwk : IntKind.wrap .i64 (((q0.length + l.length : Nat) : Int) + 1) = ((q0.length + l.length + 1 : Nat) : Int) := by rw [wrap_i64 (by omega) (by omega)]; omega
          rw [hwk]
          refine row_st ok6 hr6 (by omega) ?_
          intro m7 ok7 kp7 bk7 ho7 hc7
          have c0 : m7.cell b3 0 = some (.int .u16 p) := by rw [ho7 0 (by omega)]; exact hr6.p
          have c1 : m7.cell b3 1 = some (.int .u16 q) := by rw [ho7 1 (by omega)]; exact hr6.n
          have c2 : m7.cell b3 2 = some (.bool d) := by rw [ho7 2 (by omega)]; exact hr6.d
          refine ⟨_, c0, _, c1, _, c2, _, hc7, ?_⟩
          refine stl4u ok7 (bn16.keep kp7 n13) ?_
          intro m8 ok8 kp8
          rw [List.take_length] at hb
          exact hK p q m8 ok8 (wr1 (wr3 kp6 kp7) kp8) hb
      · have hF : False := by omega
        cases hF)
  have hf4 := hf.keep kk4
  have hlenp : at_ < flat.length := by rw [hfl, hat, hfo]; simp; omega
  refine hf4.sl.get (by omega) (by omega) fun _ _ _ => ?_
  simp only [Int.toNat_natCast]
  cases d with
  | true =>
    have hg : flat.getD at_ 0 = 13 := by
      rw [hfl, hfo, hat]
      simp [List.getD]
    rw [hg]
    with_reducible refine ifB_eq (fun _ => ?_) (fun h0 => absurd rfl h0)
    refine row_st ok4 hr4 (by omega) ?_
    intro m5 ok5 kp5 bk5 ho5 hc5
    have hwa : IntKind.wrap .i64 ((at_ : Int) + 1) = ((q0.length : Nat) : Int) := by
      rw [wrap_i64 (by omega) (by omega), ← hq0, hat]; simp
    rw [hwa]
    exact key m5 ok5 (wr3 kk4 kp5) ⟨bk5, by rw [ho5 0 (by omega)]; exact hr4.p, by rw [ho5 1 (by omega)]; exact hr4.n, hc5, by rw [ho5 3 (by omega)]; exact hr4.x⟩ (bn14.keep kp5 n13)
  | false =>
    have hq1 : q0.length = at_ := by rw [← hq0, hat]; simp
    have hne : flat.getD at_ 0 ≠ 13 := by
      rw [hfl2, ← hq1]
      cases l with
      | nil => simp [List.getD]
      | cons x xs =>
        have := good_abs (hl.1 x (by simp))
        simp [List.getD]
        omega
    refine ifB_eq (fun h0 => ?_) (fun _ => ?_)
    · have hF : False := hne h0
      cases hF
    have := key m4 ok4 kk4 hr4 bn14
    rw [hq1] at this
    exact this
end Go.Proofs.Qxb6500974aGreat
