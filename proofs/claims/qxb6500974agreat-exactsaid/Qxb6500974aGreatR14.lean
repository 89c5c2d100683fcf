import Derived.Test.Qxb6500974aGreatR13
set_option linter.all false
set_option linter.unusedSimpArgs false
set_option linter.unusedVariables false
namespace Go.Proofs.Qxb6500974aGreat
open Go.Eng
variable {W0 : World}

def Fill (m : Mem) (b N : Nat) (pre : List UInt8) : Prop := ∃ f, m.blk b = some f ∧ f.wr = true ∧ (∀ i, i < N → (f.cell i).isSome = true) ∧ ∀ i x, pre[i]? = some x → f.cell i = some (.int .u8 x.toNat)
theorem Fill.put {m : Mem} {b N : Nat} {pre : List UInt8} {y : UInt8} {v : Int} {K : Mem → Prop} (ok : m.Ok) (h : Fill m b N pre) (hl : pre.length < N) (hv : v = (y.toNat : Int))
    (hK : ∀ m', m'.Ok → Kp [b] m m' → Fill m' b N (pre ++ [y]) → K m') : st m b (0 + pre.length) (.int .u8 v) K := by
  obtain ⟨f, f1, f2, f3, f4⟩ := h
  subst hv
  refine ⟨f, f1, f2, by rw [Nat.zero_add]; exact f3 _ hl, ?_⟩
  rw [Nat.zero_add]
  refine hK _ (ok.setB f1) (Kp.setB (S := [b]) f1 f2 (f.upd pre.length (.int .u8 y.toNat)) (by simp)) ⟨_, Mem.setB_at _ _ _, f2, ?_, ?_⟩
  · intro i hi
    simp only [Blk.upd]
    split
    · rfl
    · exact f3 i hi
  · intro i x hi
    rw [List.getElem?_append] at hi
    simp only [Blk.upd]
    split at hi
    · rw [if_neg (by omega)]; exact f4 i x hi
    · have hi0 : i = pre.length := by
        rcases Nat.lt_or_ge (i - pre.length) 1 with h | h
        · omega
        · rw [List.getElem?_eq_none (by simpa using h)] at hi; cases hi
      subst hi0
      simp at hi
      subst hi
      rw [if_pos rfl]
theorem dig_wrap {d : Nat} (h : d ≤ 9) : IntKind.wrap .u8 (IntKind.wrap .i64 (48 + (d : Int))) = (((UInt8.ofNat (48 + d)).toNat : Nat) : Int) := by
  have e1 : IntKind.wrap .i64 (48 + (d : Int)) = 48 + (d : Int) := wrap_i64 (by omega) (by omega)
  rw [e1]
  have e2 : IntKind.wrap .u8 (48 + (d : Int)) = 48 + (d : Int) := by
    simp only [IntKind.wrap, IntKind.signed, IntKind.bits]
    simp
    omega
  rw [e2, UInt8.toNat_ofNat']
  omega
theorem lay_spec {b N : Nat} {pre : List UInt8} {x : Int} {K : Value → Mem → Prop} {m : Mem} (h : Fill m b N pre) (hx : x = 13 ∨ x = 0 ∨ goGoodLit x = true) (hl : pre.length + (gLay x).length ≤ N) (hN : N < 2 ^ 40)
    (hK : ∀ m', m'.Ok → Kp [b] m m' → Fill m' b N (pre ++ gLay x) → K (.int .i64 ((pre.length + (gLay x).length : Nat) : Int)) m') : callOK Tryz.prog W0 117 [.slice (some ⟨b, 0, none⟩) N N, .int .i64 pre.length, .int .i64 x] K m := by
  refine callOK_ok fun ok => call117 ?_
  unfold s117
  unfold gLay at hl hK
  have w1 : ∀ n : Nat, n < 2 ^ 41 → IntKind.wrap .i64 ((n : Int) + 1) = ((n + 1 : Nat) : Int) := fun n hn => by rw [wrap_i64 (by omega) (by omega)]; omega
  have w2 : ∀ n : Nat, n < 2 ^ 41 → IntKind.wrap .i64 ((n : Int) + 2) = ((n + 2 : Nat) : Int) := fun n hn => by rw [wrap_i64 (by omega) (by omega)]; omega
  rw [w1 _ (by omega), w1 _ (by omega), w1 _ (by omega), w2 _ (by omega), w2 _ (by omega), w2 _ (by omega)]

  have put : ∀ (q : List UInt8) (m1 : Mem) (y : UInt8) (v : Int) (K2 : Mem → Prop), m1.Ok → Fill m1 b N q → q.length < N → v = (y.toNat : Int) → (∀ m2, m2.Ok → Kp [b] m1 m2 → Fill m2 b N (q ++ [y]) → K2 m2) →
      ckP (some ⟨b, 0, none⟩) fun b_1 o_1 => ckI ((q.length : Nat) : Int) N fun j_2 => st m1 b_1 (o_1 + j_2) (.int .u8 v) K2 := by
    intro q m1 y v K2 ok1 h1 hq hv hK2
    refine ⟨by omega, by omega, ?_⟩
    simp only [Int.toNat_natCast]
    exact h1.put ok1 hq hv hK2
  have put' : ∀ (n : Nat) (q : List UInt8) (m1 : Mem) (y : UInt8) (v : Int) (K2 : Mem → Prop), n = q.length → m1.Ok → Fill m1 b N q → q.length < N → v = (y.toNat : Int) → (∀ m2, m2.Ok → Kp [b] m1 m2 → Fill m2 b N (q ++ [y]) → K2 m2) →
      ckP (some ⟨b, 0, none⟩) fun b_1 o_1 => ckI ((n : Nat) : Int) N fun j_2 => st m1 b_1 (o_1 + j_2) (.int .u8 v) K2 := by
    intro n q m1 y v K2 hn ok1 h1 hq hv hK2
    subst hn
    exact put q m1 y v K2 ok1 h1 hq hv hK2
  refine ifB_eq (fun e13 => ?_) (fun e13 => ?_)
  · rw [if_pos e13] at hl hK
    simp only [List.length_cons, List.length_nil] at hl hK
    refine put pre m 100 _ _ ok h (by omega) rfl ?_
    intro m1 ok1 k1 h1
    refine put' _ _ m1 32 _ _ (by simp) ok1 h1 (by simp; omega) rfl ?_
    intro m2 ok2 k2 h2
    refine hK m2 ok2 (k1.trans k2) ?_
    simpa using h2
  · rw [if_neg e13] at hl hK
    refine ifB_eq (fun e0 => ?_) (fun e0 => ?_)
    · rw [if_pos e0] at hl hK
      simp only [List.length_cons, List.length_nil] at hl hK
      refine put pre m 48 _ _ ok h (by omega) rfl ?_
      intro m1 ok1 k1 h1
      refine put' _ _ m1 10 _ _ (by simp) ok1 h1 (by simp; omega) rfl ?_
      intro m2 ok2 k2 h2
      refine hK m2 ok2 (k1.trans k2) ?_
      simpa using h2
    · rw [if_neg e0] at hl hK
      have hg : goGoodLit x = true := by
        rcases hx with h | h | h
        · exact absurd h e13
        · exact absurd h e0
        · exact h
      have ha := good_abs hg
      unfold gItoa at hl hK
      generalize hn : x.natAbs = n at hl hK ha
      refine ifB_lt (fun hneg => ?_) (fun hneg => ?_)
      · have hwx : IntKind.wrap .i64 (0 - x) = (n : Int) := by rw [wrap_i64 (by omega) (by omega)]; omega
        rw [hwx]
        rw [if_pos hneg] at hl hK
        refine put pre m 45 _ _ ok h (by simp only [List.length_append, List.length_cons, List.length_nil] at hl; omega) rfl ?_
        intro m1 ok1 k1 h1
        refine ifB_ge (fun hge => ?_) (fun hge => ?_)
        · rw [if_pos (by omega)] at hl hK
          simp only [List.length_append, List.length_cons, List.length_nil] at hl
          have hd0 : Int.tdiv (n : Int) 10 = ((n / 10 : Nat) : Int) := rfl
          have hd : IntKind.wrap .i64 (Int.tdiv (n : Int) 10) = ((n / 10 : Nat) : Int) := by rw [hd0, wrap_i64 (by omega) (by omega)]
          have hm : Int.tmod (n : Int) 10 = ((n % 10 : Nat) : Int) := rfl
          rw [hd, hm]
          refine ⟨by omega, ?_⟩
          refine put' _ _ m1 (UInt8.ofNat (48 + n / 10)) _ _ (by simp) ok1 h1 (by simp; omega) (dig_wrap (by omega)) ?_
          intro m2 ok2 k2 h2
          refine ⟨by omega, ?_⟩
          refine put' _ _ m2 (UInt8.ofNat (48 + n % 10)) _ _ (by simp) ok2 h2 (by simp; omega) (dig_wrap (by omega)) ?_
          intro m3 ok3 k3 h3
          refine put' _ _ m3 32 _ _ (by simp) ok3 h3 (by simp; omega) rfl ?_
          intro m4 ok4 k4 h4
          have := hK m4 ok4 (((k1.trans k2).trans k3).trans k4) (by simpa using h4)
          rw [show pre.length + 1 + 1 + 2 = pre.length + 4 by omega]
          simpa using this
        · rw [if_neg (by omega)] at hl hK
          simp only [List.length_append, List.length_cons, List.length_nil] at hl
          refine put' _ _ m1 (UInt8.ofNat (48 + n)) _ _ (by simp) ok1 h1 (by simp; omega) (dig_wrap (by omega)) ?_
          intro m2 ok2 k2 h2
          refine put' _ _ m2 32 _ _ (by simp) ok2 h2 (by simp; omega) rfl ?_
          intro m3 ok3 k3 h3
          have := hK m3 ok3 ((k1.trans k2).trans k3) (by simpa using h3)
          rw [show pre.length + 1 + 2 = pre.length + 3 by omega]
          simpa using this
      · have hxn : x = (n : Int) := by omega
        subst hxn
        rw [if_neg (by omega)] at hl hK
        refine ifB_ge (fun hge => ?_) (fun hge => ?_)
        · rw [if_pos (by omega)] at hl hK
          simp only [List.length_append, List.length_cons, List.length_nil] at hl
          have hd0 : Int.tdiv (n : Int) 10 = ((n / 10 : Nat) : Int) := rfl
          have hd : IntKind.wrap .i64 (Int.tdiv (n : Int) 10) = ((n / 10 : Nat) : Int) := by rw [hd0, wrap_i64 (by omega) (by omega)]
          have hm : Int.tmod (n : Int) 10 = ((n % 10 : Nat) : Int) := rfl
          rw [hd, hm]
          refine ⟨by omega, ?_⟩
          refine put pre m (UInt8.ofNat (48 + n / 10)) _ _ ok h (by omega) (dig_wrap (by omega)) ?_
          intro m2 ok2 k2 h2
          refine ⟨by omega, ?_⟩
          refine put' _ _ m2 (UInt8.ofNat (48 + n % 10)) _ _ (by simp) ok2 h2 (by simp; omega) (dig_wrap (by omega)) ?_
          intro m3 ok3 k3 h3
          refine put' _ _ m3 32 _ _ (by simp) ok3 h3 (by simp; omega) rfl ?_
          intro m4 ok4 k4 h4
          have := hK m4 ok4 ((k2.trans k3).trans k4) (by simpa using h4)
          rw [show pre.length + 1 + 2 = pre.length + 3 by omega]
          simpa using this
        · rw [if_neg (by omega)] at hl hK
          simp only [List.length_append, List.length_cons, List.length_nil] at hl
          refine put pre m (UInt8.ofNat (48 + n)) _ _ ok h (by omega) (dig_wrap (by omega)) ?_
          intro m2 ok2 k2 h2
          refine put' _ _ m2 32 _ _ (by simp) ok2 h2 (by simp; omega) rfl ?_
          intro m3 ok3 k3 h3
          have := hK m3 ok3 (k2.trans k3) (by simpa using h3)
          simpa using this
theorem width_eq {x : Int} (hx : x = 13 ∨ x = 0 ∨ goGoodLit x = true) : goWidth x = ((gLay x).length : Nat) := by
  unfold goWidth gLay
  by_cases e13 : x = 13
  · rw [if_pos (.inl e13), if_pos e13]; rfl
  · by_cases e0 : x = 0
    · rw [if_pos (.inr e0), if_neg e13, if_pos e0]; rfl
    · have hg : goGoodLit x = true := by
        rcases hx with h | h | h
        · exact absurd h e13
        · exact absurd h e0
        · exact h
      have ha := good_abs hg
      rw [if_neg (by omega), if_neg e13, if_neg e0]
      unfold gItoa
      by_cases hneg : x < 0
      · rw [if_pos hneg, if_pos hneg]
        have hwx : IntKind.wrap .i64 (0 - x) = (x.natAbs : Int) := by rw [wrap_i64 (by omega) (by omega)]; omega
        rw [hwx]
        by_cases h10 : 10 ≤ x.natAbs
        · rw [if_pos (by omega), if_pos h10]; rfl
        · rw [if_neg (by omega), if_neg h10]; rfl
      · rw [if_neg hneg, if_neg hneg]
        by_cases h10 : 10 ≤ x.natAbs
        · rw [if_pos (by omega), if_pos h10]; rfl
        · rw [if_neg (by omega), if_neg h10]; rfl
theorem rprint_spec {p : Nat} {fa : Option Addr} {fn fc : Nat} {flat : List Int} {K : Value → Mem → Prop} {m : Mem} (hf : SlI m fa fn flat) (hlen : flat.length ≤ 262144) (hck : gCheckFlat flat = 0) (hx : ∀ x ∈ flat, x = 13 ∨ x = 0 ∨ goGoodLit x = true)
    (hK : ∀ s m', m'.Ok → Kp [] m m' → bts s = gPrint flat → K (.tuple #[.string s, .int .i64 0]) m') : callOK Tryz.prog W0 64 [ptr p 0, .slice fa fn fc] K m := by
  refine callOK_ok fun ok => call64 ?_
  have e1 := hf.len
  unfold s64
  refine ifB_gt (fun hg => ?_) (fun _ => ?_)
  · have hF : False := by omega
    cases hF
  refine checkFlat_spec hf (by omega) hck ⟨_, rfl, ?_⟩
  with_reducible refine ifB_ne (fun h0 => absurd rfl h0) (fun _ => ?_)
  have hpl := gPrint_len flat
  refine loop64_1 (γ := Nat) (fun k n i m' => m' = m ∧ i = k ∧ k ≤ flat.length ∧ n = ((gPrint (flat.take k)).length : Nat)) (fun k _ _ => flat.length - k) 0 ⟨rfl, rfl, by omega, by simp [gPrint]⟩ ?_
  rintro k n i m1 ⟨rfl, rfl, hk, rfl⟩
  have hpk := gPrint_len (flat.take k)
  have htk : (flat.take k).length = k := by simp; omega
  unfold s64_1
  refine ifB_lt (fun hlt => ?_) (fun hlt => ?_)
  · have hkl : k < flat.length := by omega
    refine hf.get (by omega) (by omega) fun _ _ _ => ?_
    simp only [Int.toNat_natCast]
    rw [width_eq (hx _ (mem_getD hkl 0))]
    have hl4 := gLay_len (flat.getD k 0)
    refine ⟨k + 1, _, _, rfl, ⟨rfl, wrapS k (by omega), by omega, ?_⟩, by omega⟩
    rw [wrap_i64 (by omega) (by omega), take_succ_getD hkl 0]
    simp [gPrint]
  · rw [e64_1x0]
    have : k = flat.length := by omega
    subst this
    rw [List.take_length] at hpk ⊢
    unfold s64_1x0
    obtain ⟨N, hN⟩ : ∃ N, (gPrint flat).length = N := ⟨_, rfl⟩
    rw [hN] at hpk ⊢
    refine ⟨by omega, by omega, by omega, by omega, ?_⟩
    intro b hb
    have hk1 := Kp.new (S := []) ok hb { wr := true, cell := rowsOf [(.int .u8 0)] (Int.toNat (N : Int)) }
    have ok1 := ok.new hb { wr := true, cell := rowsOf [(.int .u8 0)] (Int.toNat (N : Int)) }
    have f1 : Fill (m1.new b { wr := true, cell := rowsOf [(.int .u8 0)] (Int.toNat (N : Int)) }) b N [] := by
      refine ⟨_, Mem.new_at _ _ _, rfl, ?_, by simp⟩
      intro i hi
      simp [rowsOf, Nat.mod_one, hi]
    generalize m1.new b { wr := true, cell := rowsOf [(.int .u8 0)] (Int.toNat (N : Int)) } = m2 at hk1 ok1 f1
    simp only [Int.toNat_natCast]
    refine loop64_2 (γ := Nat) (fun k at_ i m' => i = k ∧ k ≤ flat.length ∧ at_ = ((gPrint (flat.take k)).length : Nat) ∧ m'.Ok ∧ Kp [] m1 m' ∧ Fill m' b N (gPrint (flat.take k))) (fun k _ _ => flat.length - k) 0 ⟨rfl, by omega, by simp [gPrint], ok1, hk1, by simpa [gPrint] using f1⟩ ?_
    rintro k at_ i m3 ⟨rfl, hk, rfl, ok3, kp3, f3⟩
    unfold s64_2
    refine ifB_lt (fun hlt => ?_) (fun hlt => ?_)
    · have hkl : k < flat.length := by omega
      refine (hf.keep0 kp3).get (by omega) (by omega) fun _ _ _ => ?_
      simp only [Int.toNat_natCast]
      have hsplit : gPrint flat = gPrint (flat.take k) ++ (gLay (flat.getD k 0) ++ gPrint (flat.drop (k + 1))) := by
        have e : flat = flat.take k ++ flat.getD k 0 :: flat.drop (k + 1) := by rw [← drop_cons hkl 0, List.take_append_drop]
        conv => lhs; rw [e]
        simp [gPrint]
      have hle := congrArg List.length hsplit
      simp only [List.length_append] at hle
      refine lay_spec f3 (hx _ (mem_getD hkl 0)) (by omega) (by omega) ?_
      intro m4 ok4 k4 f4
      have e2 : gPrint (flat.take (k + 1)) = gPrint (flat.take k) ++ gLay (flat.getD k 0) := by rw [take_succ_getD hkl 0]; simp [gPrint]
      refine ⟨_, rfl, ?_⟩
      refine ⟨k + 1, _, _, rfl, ⟨wrapS k (by omega), by omega, ?_, ok4, kp3.step k4 ok (fun b' hb' => .inr (by simp at hb'; omega)), ?_⟩, by omega⟩
      · rw [e2]; simp
      · rw [e2]; exact f4
    · rw [e64_2x2]
      have : k = flat.length := by omega
      subst this
      rw [List.take_length] at f3
      unfold s64_2x2
      obtain ⟨f, g1, g2, g3, g4⟩ := f3
      refine rdBytes_of hN ?_ ?_
      · refine row_of fun j v hj => ?_
        simp only [bytesL, List.getElem?_map, Option.map_eq_some_iff] at hj
        obtain ⟨x, hx1, rfl⟩ := hj
        simp only [Mem.cell, g1, Nat.zero_add]
        exact g4 j x hx1
      · intro s hs
        exact hK s m3 ok3 kp3 hs

def gFeeds : List UInt8 → Nat → Pst → Pst
  | [], _, s => s
  | c :: cs, i, s => if s.err = 0 then gFeeds cs (i + 1) (pFeed s c.toNat i) else s
def rOpen (s : Pst) (n : Nat) : Pst := if s.err = 0 ∧ s.opn = true then pFail s 5 n else s
def rLast (t : List UInt8) : Pst := if (gFeeds t 0 Pst.rest).err = 0 then pFeed (gFeeds t 0 Pst.rest) 32 t.length else gFeeds t 0 Pst.rest
def rFin (t : List UInt8) : Pst := rOpen (rLast t) t.length
def rParse (t : List UInt8) : Int × Int × List Int := if 1048576 < t.length then (1, 0, []) else ((rFin t).err, (rFin t).at_, if (rFin t).err = 0 then (rFin t).arena else [])
theorem pEnd_len (s : Pst) : (pEnd s).arena.length ≤ s.arena.length + 26 := by
  unfold pEnd endArena
  dsimp only
  have := sweepA_len s.pos s.neg 12 1
  split
  · split <;> simp <;> omega
  · omega
theorem pNumber_len (s : Pst) : (pNumber s).arena.length ≤ s.arena.length + 26 := by
  unfold pNumber
  have := pEnd_len s
  split
  · simp [pFail]
  · split
    · simp [pFail]
    · split
      · exact this
      · split <;> simp
theorem pFeed_len (s : Pst) (c i : Nat) : (pFeed s c i).arena.length ≤ s.arena.length + 26 := by
  unfold pFeed
  have h1 := pNumber_len { s with state := 0 }
  split
  · unfold pBegin
    repeat' split
    all_goals simp [pFail]
  · split
    · split <;> simp
    · split
      · repeat' split
        all_goals simp [pFail]
      · split
        · split
          · simp
          · split
            · exact h1
            · simp [pFail]
        · split
          · split <;> simp [pFail]
          · simp
theorem zero73 : zeroBlk Tryz.prog 73 = Blk.ofList [.int .i64 0, .int .i64 0, .slice none 0 0] := by kernel_rfl
theorem stl3s {m : Mem} {b : Nat} {x0 x1 : Int} {a : Option Addr} {n c : Nat} {K : Value → Mem → Prop} (ok : m.Ok) (h : BlkN m b 3)
    (hK : ∀ m', m'.Ok → Kp [b] m m' → K (.agg #[(.int .i64 x0), (.int .i64 x1), (.slice a n c)]) m') :
    stL m b 0 [(.int .i64 x0), (.int .i64 x1), (.slice a n c)] fun m1 =>
      ldInt .i64 m1 b 0 fun y0 => ldInt .i64 m1 b 1 fun y1 => ldSl m1 b 2 fun a' n' c' => K (.agg #[(.int .i64 y0), (.int .i64 y1), (.slice a' n' c')]) m1 := by
  refine stL_put ok h (by simp) (by intro v hv; simp at hv; rcases hv with rfl | rfl | rfl <;> rfl) (by simp) ?_
  intro m' ok' kp' row' _
  obtain ⟨r0, r1, r2, _⟩ := row'
  exact ⟨_, r0, _, r1, _, _, _, r2, hK m' ok' kp'⟩
theorem st_cell2 {m : Mem} {b : Nat} {x0 x1 : Value} {v : Value} {K : Mem → Prop} (ok : m.Ok) (h : BlkN m b 3) (h0 : m.cell b 0 = some x0) (h1 : m.cell b 1 = some x1) (hv : oneC v = true)
    (hK : ∀ m', m'.Ok → Kp [b] m m' → m'.cell b 0 = some x0 → m'.cell b 1 = some x1 → m'.cell b 2 = some v → K m') : st m b 2 v K := by
  obtain ⟨f, f1, f2, f3⟩ := h
  refine ⟨f, f1, f2, f3 2 (by omega), ?_⟩
  have hk := Kp.setB (S := [b]) f1 f2 (f.upd 2 v) (by simp)
  simp only [Mem.cell, f1] at h0 h1
  refine hK _ (ok.setB f1) hk ?_ ?_ ?_
  · simp only [Mem.cell, Mem.setB_at, Blk.upd]; simpa using h0
  · simp only [Mem.cell, Mem.setB_at, Blk.upd]; simpa using h1
  · simp only [Mem.cell, Mem.setB_at, Blk.upd]; simp
theorem rparse_spec {p : Nat} {aa : Option Addr} {s0 : Pst} {text : ByteArray} {K : Value → Mem → Prop} {m : Mem} (h : PaAt m p aa s0)
    (hK : ∀ a n aa' s' m', m'.Ok → Kp (p :: blkOf aa) m m' → InS (blkOf aa) m (blkOf aa') → PaAt m' p aa' s' → FzI m' a n (rParse (bts text)).2.2 → K (.agg #[.int .i64 (rParse (bts text)).1, .int .i64 (rParse (bts text)).2.1, .slice a n n]) m') : callOK Tryz.prog W0 25 [ptr p 0, .string text] K m := by
  refine callOK_ok fun ok => call25 ?_
  have hlt := h.lt ok
  unfold s25
  rw [zero73]
  obtain ⟨t, ht⟩ : ∃ t, bts text = t := ⟨_, rfl⟩
  have hsz : t.length = text.size := by rw [← ht, bts_len]
  rw [ht] at hK
  intro b hb
  have hk1 := Kp.new (S := []) ok hb (Blk.ofList [.int .i64 0, .int .i64 0, .slice none 0 0])
  have bn1 : BlkN (m.new b (Blk.ofList [.int .i64 0, .int .i64 0, .slice none 0 0])) b 3 := BlkN.new b (by simp)
  have ok1 := ok.new hb (Blk.ofList [.int .i64 0, .int .i64 0, .slice none 0 0])
  generalize m.new b (Blk.ofList [.int .i64 0, .int .i64 0, .slice none 0 0]) = m1 at hk1 bn1 ok1
  have lt1 := bn1.lt ok1
  have t1 := hk1.top
  have h1 := h.keep hk1 (fun _ _ => by simp)
  have fresh : ∀ {m3 m4 : Mem} {b' : Nat}, m.top ≤ b' → Kp (p :: blkOf aa) m m3 → Kp [b'] m3 m4 → Kp (p :: blkOf aa) m m4 := fun hb' h h' => h.step h' ok (fun b'' hb'' => .inr (by simp at hb''; omega))
  have nfr : ∀ {b' : Nat} {aa' : Option Addr} {m3 : Mem}, m.top ≤ b' → b' < m3.top → InS (blkOf aa) m (blkOf aa') → True := fun _ _ _ => trivial
  unfold rParse at hK
  refine ifB_gt (fun hg => ?_) (fun hg => ?_)
  · rw [if_pos (by omega)] at hK
    refine stl3s ok1 bn1 ?_
    intro m2 ok2 k2
    refine hK none 0 aa s0 m2 ok2 (fresh hb hk1.of_nil k2) (InS.self _ _) (h1.keep k2 ?_) (Elt.fz.nil _)
    intro x hx
    have := hlt x hx
    simp; omega
  · rw [if_neg (by omega)] at hK
    refine prest_spec h1 ?_
    intro m2 ok2 k2 h2
    refine ⟨rfl, ?_⟩
    have hb0 : b ∉ p :: blkOf aa := fun h0 => by have := hlt b h0; omega
    have kk2 : Kp (p :: blkOf aa) m m2 := hk1.of_nil.trans (k2.mono (by simp))
    have bn2 := bn1.keep k2 (fun h0 => hb0 (by simp at h0; simp [h0]))

    have tail : ∀ (aa1 : Option Addr) (s : Pst) (m3 : Mem), m3.Ok → Kp (p :: blkOf aa) m m3 → InS (blkOf aa) m (blkOf aa1) → PaAt m3 p aa1 s → BlkN m3 b 3 → b ∉ p :: blkOf aa1 → s.arena.length ≤ 2 ^ 40 → rFin t = s →
        ldInt .i64 m3 p 9 fun x_123 => ldInt .i64 m3 p 10 fun x_124 =>
        allocB m3 (zeroBlk Tryz.prog 73) fun b_125 m_126 =>
        stL m_126 b_125 0 [(.int .i64 x_123), (.int .i64 x_124), (.slice none 0 0)] fun m_127 =>
        ldInt .i64 m_127 p 9 fun x_128 =>
        ifB (x_128 == 0)
        (ldSl m_127 p 0 fun l_129a l_129l l_129c =>
        callOK Tryz.prog W0 52 [(.slice l_129a l_129l l_129c)] (fun rm_131 m_131 =>
        ∃ x_130a x_130l x_130c, rm_131 = (.slice x_130a x_130l x_130c) ∧
        st m_131 b_125 2 (.slice x_130a x_130l x_130c) fun m_132 =>
        callOK Tryz.prog W0 49 [(ptr p 0)] (fun rm_133 m_133 =>
        rm_133 = (.tuple #[]) ∧
        ldInt .i64 m_133 b_125 0 fun x_134 =>
        ldInt .i64 m_133 b_125 1 fun x_135 =>
        ldSl m_133 b_125 2 fun l_136a l_136l l_136c =>
        stL m_133 b 0 [(.int .i64 x_134), (.int .i64 x_135), (.slice l_136a l_136l l_136c)] fun m_137 =>
        ldInt .i64 m_137 b 0 fun x_138 =>
        ldInt .i64 m_137 b 1 fun x_139 =>
        ldSl m_137 b 2 fun l_140a l_140l l_140c =>
        K (.agg #[(.int .i64 x_138), (.int .i64 x_139), (.slice l_140a l_140l l_140c)]) m_137) m_132) m_127)
        (callOK Tryz.prog W0 49 [(ptr p 0)] (fun rm_141 m_141 =>
        rm_141 = (.tuple #[]) ∧
        ldInt .i64 m_141 b_125 0 fun x_142 =>
        ldInt .i64 m_141 b_125 1 fun x_143 =>
        ldSl m_141 b_125 2 fun l_144a l_144l l_144c =>
        stL m_141 b 0 [(.int .i64 x_142), (.int .i64 x_143), (.slice l_144a l_144l l_144c)] fun m_145 =>
        ldInt .i64 m_145 b 0 fun x_146 =>
        ldInt .i64 m_145 b 1 fun x_147 =>
        ldSl m_145 b 2 fun l_148a l_148l l_148c =>
        K (.agg #[(.int .i64 x_146), (.int .i64 x_147), (.slice l_148a l_148l l_148c)]) m_145) m_127) := by
      intro aa1 s m3 ok3 kp3 in3 h3 bn3 nb3 hal hfin
      rw [hfin] at hK
      have hlt3 := h3.lt ok3
      have h3' := h3
      obtain ⟨c3, hc3⟩ := h3
      refine ⟨_, hc3.so.err, _, hc3.so.at_, ?_⟩
      rw [hc3.rep.err, hc3.rep.at_, zero73]
      intro b4 hb4
      have top3 := kp3.top
      have hk4 := Kp.new (S := []) ok3 hb4 (Blk.ofList [.int .i64 0, .int .i64 0, .slice none 0 0])
      have bn4 : BlkN (m3.new b4 (Blk.ofList [.int .i64 0, .int .i64 0, .slice none 0 0])) b4 3 := BlkN.new b4 (by simp)
      have ok4 := ok3.new hb4 (Blk.ofList [.int .i64 0, .int .i64 0, .slice none 0 0])
      generalize m3.new b4 (Blk.ofList [.int .i64 0, .int .i64 0, .slice none 0 0]) = m4 at hk4 bn4 ok4
      have n4 : ∀ x ∈ p :: blkOf aa1, x ∉ [b4] := fun x hx => by have := hlt3 x hx; simp; omega
      have bb4 : b ∉ [b4] := by have := bn3.lt ok3; simp; omega
      have b4b : b4 ∉ [b] := by have := bn3.lt ok3; simp; omega
      refine stL_put ok4 bn4 (by simp) (by intro v hv; simp at hv; rcases hv with rfl | rfl | rfl <;> rfl) (by simp) ?_
      intro m5 ok5 kp5 row5 bn5
      have h5 : PaI m5 p aa1 s c3 := (hc3.keep hk4 (by simp) (fun _ _ => by simp)).keep kp5 (n4 _ (by simp)) (fun x hx => n4 x (by simp [hx]))
      have bnb5 := (bn3.keep hk4 (by simp)).keep kp5 bb4
      have kk5 : Kp (p :: blkOf aa) m m5 := fresh (by omega) (kp3.trans hk4.of_nil) kp5
      obtain ⟨r0, r1, r2, _⟩ := row5
      have n4p : b4 ∉ [p] := fun h0 => n4 p (by simp) (by simp at h0; simp [h0])
      have nbp : b ∉ [p] := fun h0 => nb3 (by simp at h0; simp [h0])

      have last : ∀ (a : Option Addr) (n : Nat) (m6 : Mem), m6.Ok → Kp (p :: blkOf aa) m m6 → PaAt m6 p aa1 s → m6.cell b4 0 = some (.int .i64 s.err) → m6.cell b4 1 = some (.int .i64 s.at_) → m6.cell b4 2 = some (.slice a n n) → BlkN m6 b 3 → FzI m6 a n (if s.err = 0 then s.arena else []) →
          callOK Tryz.prog W0 49 [(ptr p 0)] (fun rm_141 m_141 =>
          rm_141 = (.tuple #[]) ∧
          ldInt .i64 m_141 b4 0 fun x_142 =>
          ldInt .i64 m_141 b4 1 fun x_143 =>
          ldSl m_141 b4 2 fun l_144a l_144l l_144c =>
          stL m_141 b 0 [(.int .i64 x_142), (.int .i64 x_143), (.slice l_144a l_144l l_144c)] fun m_145 =>
          ldInt .i64 m_145 b 0 fun x_146 =>
          ldInt .i64 m_145 b 1 fun x_147 =>
          ldSl m_145 b 2 fun l_148a l_148l l_148c =>
          K (.agg #[(.int .i64 x_146), (.int .i64 x_147), (.slice l_148a l_148l l_148c)]) m_145) m6 := by
        intro a n m6 ok6 kp6 h6 q0 q1 q2 bn6 fz6
        refine prest_spec h6 ?_
        intro m7 ok7 k7 h7
        refine ⟨rfl, ?_⟩
        refine ⟨_, k7.cell n4p q0, _, k7.cell n4p q1, _, _, _, k7.cell n4p q2, ?_⟩
        refine stl3s ok7 (bn6.keep k7 nbp) ?_
        intro m8 ok8 k8
        refine hK a n aa1 _ m8 ok8 (fresh hb (kp6.trans (k7.mono (by simp))) k8) in3 (h7.keep k8 ?_) ((fz6.keep k7).keep k8)
        intro x hx h0
        simp at h0
        subst h0
        exact nb3 hx
      refine ⟨_, h5.so.err, ?_⟩
      rw [hc3.rep.err]
      refine ifB_eq (fun he => ?_) (fun he => ?_)
      · refine ⟨_, _, _, h5.so.arena, ?_⟩
        refine copyFz_spec h5.own.sl (by omega) ?_
        intro a6 m6 ok6 kp6 fz6 _
        refine ⟨_, _, _, rfl, ?_⟩
        refine st_cell2 ok6 (bn5.keep kp6 (by simp)) (kp6.cell (by simp) r0) (kp6.cell (by simp) r1) rfl ?_
        intro m7 ok7 kp7 q0 q1 q2
        refine last a6 _ m7 ok7 (fresh (by omega) (kk5.trans kp6.of_nil) kp7) ⟨c3, (h5.keep kp6 (by simp) (fun _ _ => by simp)).keep kp7 (n4 _ (by simp)) (fun x hx => n4 x (by simp [hx]))⟩ q0 q1 q2 ((bnb5.keep kp6 (by simp)).keep kp7 bb4) ?_
        rw [if_pos he]
        exact fz6.keep kp7
      · refine last none 0 m5 ok5 kk5 ⟨c3, h5⟩ r0 r1 r2 bnb5 ?_
        rw [if_neg he]
        exact Elt.fz.nil _
    obtain ⟨r, hr⟩ : ∃ r, gFeeds t 0 Pst.rest = r := ⟨_, rfl⟩
    have fin : ∀ (i : Int) (k : Nat) (aa1 : Option Addr) (m3 : Mem), k ≤ t.length → m3.Ok → Kp (p :: blkOf aa) m m3 → InS (blkOf aa) m (blkOf aa1) → PaAt m3 p aa1 r → BlkN m3 b 3 → b ∉ p :: blkOf aa1 → r.arena.length ≤ 26 * k → s25_1x0 (callOK Tryz.prog W0) p text b i K m3 := by
      intro i k aa1 m3 hk ok3 kp3 in3 h3 bn3 nb3 hal
      unfold s25_1x0
      have hlast : rLast t = if r.err = 0 then pFeed r 32 t.length else r := by unfold rLast; rw [hr]
      have hfin : rFin t = rOpen (rLast t) t.length := rfl
      have h3' := h3
      obtain ⟨c3, hc3⟩ := h3'
      refine ⟨_, hc3.so.err, ?_⟩
      rw [hc3.rep.err]
      have hsz2 : ((ByteArray.size text : Nat) : Int) = (t.length : Int) := by omega
      rw [hsz2]

      have open_ : ∀ (s : Pst) (aa4 : Option Addr) (m4 : Mem), rLast t = s → m4.Ok → Kp (p :: blkOf aa) m m4 → InS (blkOf aa) m (blkOf aa4) → PaAt m4 p aa4 s → BlkN m4 b 3 → b ∉ p :: blkOf aa4 → s.arena.length ≤ 2 ^ 40 → True := fun _ _ _ _ _ _ _ _ _ _ _ => trivial
      refine ifB_eq (fun he => ?_) (fun he => ?_)
      · rw [if_pos he] at hlast
        refine feed_spec h3 (by omega) ?_
        intro aa4 m4 ok4 kp4 in4 h4
        refine ⟨rfl, ?_⟩
        have kk4 := kp3.step kp4 ok (sub_cons in3)
        have ii4 := in3.trans in4 kp3.top
        have hfl := pFeed_len r 32 t.length
        generalize pFeed r 32 t.length = q at hlast h4 hfl ⊢
        have bn4 := bn3.keep kp4 nb3
        have nb4 : b ∉ p :: blkOf aa4 := fun h0 => by
          simp only [List.mem_cons] at h0
          rcases h0 with h0 | h0
          · exact nb3 (by simp [h0])
          · rcases in4 b h0 with h9 | h9
            · exact nb3 (by simp [h9])
            · have := bn3.lt ok3; omega
        obtain ⟨c4, hc4⟩ := h4
        refine ⟨_, hc4.so.err, ?_⟩
        dsimp only
        rw [hc4.rep.err]
        rw [hlast] at hfin
        unfold rOpen at hfin
        refine ifB_eq (fun he2 => ?_) (fun he2 => ?_)
        · refine ⟨_, hc4.so.open_, ?_⟩
          dsimp only
          rw [hc4.rep.opn]
          refine ifB_of (fun ho => ?_) (fun ho => ?_)
          · rw [if_pos ⟨he2, ho⟩] at hfin
            refine pfail_spec ⟨c4, hc4⟩ ?_
            intro m5 ok5 kp5 h5
            refine ⟨rfl, ?_⟩
            exact tail aa4 _ m5 ok5 (kk4.trans (kp5.mono (by simp))) ii4 h5 (bn4.keep kp5 (fun h0 => nb4 (by simp at h0; simp [h0]))) nb4 (by simp [pFail]; omega) hfin
          · rw [if_neg (fun h0 => by rw [ho] at h0; simp at h0)] at hfin
            exact tail aa4 q m4 ok4 kk4 ii4 ⟨c4, hc4⟩ bn4 nb4 (by omega) hfin
        · rw [if_neg (fun h0 => he2 h0.1)] at hfin
          exact tail aa4 q m4 ok4 kk4 ii4 ⟨c4, hc4⟩ bn4 nb4 (by omega) hfin
      · rw [if_neg he] at hlast
        rw [hlast] at hfin
        unfold rOpen at hfin
        rw [if_neg (fun h0 => he h0.1)] at hfin
        refine ⟨_, hc3.so.err, ?_⟩
        dsimp only
        rw [hc3.rep.err]
        refine ifB_eq (fun he2 => absurd he2 he) (fun _ => ?_)
        exact tail aa1 r m3 ok3 kp3 in3 h3 bn3 nb3 (by omega) hfin
    refine loop25_1 (γ := Nat × Option Addr × Pst) (fun g i m' => i = g.1 ∧ g.1 ≤ t.length ∧ m'.Ok ∧ Kp (p :: blkOf aa) m m' ∧ InS (blkOf aa) m (blkOf g.2.1) ∧ PaAt m' p g.2.1 g.2.2 ∧ BlkN m' b 3 ∧ b ∉ p :: blkOf g.2.1 ∧ g.2.2.arena.length ≤ 26 * g.1 ∧ gFeeds (t.drop g.1) g.1 g.2.2 = r) (fun g _ => t.length - g.1) (0, aa, Pst.rest)
      ⟨rfl, by dsimp only; omega, ok2, kk2, InS.self _ _, h2, bn2, hb0, by simp [Pst.rest], by simpa using hr⟩ ?_
    rintro ⟨k, aa3, s3⟩ i m3 ⟨rfl, hk, ok3, kp3, in3, h3, bn3, nb3, hal, hj⟩
    dsimp only at hk in3 h3 nb3 hal hj ⊢
    have h3' := h3
    obtain ⟨c3, hc3⟩ := h3'
    unfold s25_1
    refine ifB_lt (fun hlt2 => ?_) (fun hlt2 => ?_)
    · have hkl : k < t.length := by omega
      rw [drop_cons hkl 0] at hj
      simp only [gFeeds] at hj
      refine ⟨_, hc3.so.err, ?_⟩
      dsimp only
      rw [hc3.rep.err]
      refine ifB_eq (fun he => ?_) (fun he => ?_)
      · rw [if_pos he] at hj
        refine ckS_of (by omega) (by omega) ?_
        rw [ht]
        simp only [Int.toNat_natCast]
        refine feed_spec h3 (by omega) ?_
        intro aa4 m4 ok4 kp4 in4 h4
        refine ⟨rfl, ?_⟩
        have hfl := pFeed_len s3 (t.getD k 0).toNat k
        have nb4 : b ∉ p :: blkOf aa4 := fun h0 => by
          simp only [List.mem_cons] at h0
          rcases h0 with h0 | h0
          · exact nb3 (by simp [h0])
          · rcases in4 b h0 with h9 | h9
            · exact nb3 (by simp [h9])
            · have := bn3.lt ok3; omega
        generalize pFeed s3 (t.getD k 0).toNat k = q at hj h4 hfl
        exact ⟨(k + 1, aa4, q), _, rfl, ⟨wrapS k (by omega), by dsimp only; omega, ok4, kp3.step kp4 ok (sub_cons in3), in3.trans in4 kp3.top, h4, bn3.keep kp4 nb3, nb4, by dsimp only; omega, hj⟩, by dsimp only; omega⟩
      · rw [if_neg he] at hj
        subst hj
        rw [e25_1x0]
        exact fin _ k aa3 m3 hk ok3 kp3 in3 h3 bn3 nb3 hal
    · have : k = t.length := by omega
      subst this
      rw [List.drop_length] at hj
      simp only [gFeeds] at hj
      subst hj
      rw [e25_1x0]
      exact fin _ _ aa3 m3 (Nat.le_refl _) ok3 kp3 in3 h3 bn3 nb3 hal
end Go.Proofs.Qxb6500974aGreat
