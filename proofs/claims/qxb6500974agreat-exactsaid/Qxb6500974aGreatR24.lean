import Derived.Test.Qxb6500974aGreatR23
set_option linter.all false
set_option linter.unusedSimpArgs false
set_option linter.unusedVariables false
namespace Go.Proofs.Qxb6500974aGreat
open Go.Eng
variable {W0 : World}

theorem bts_inj {s t : ByteArray} (h : bts s = bts t) : s = t := by
  cases s with
  | mk a => cases t with
    | mk b =>
      have : a.toList = b.toList := h
      rw [Array.toList_inj] at this
      rw [this]
theorem alloc_row {m : Mem} {vs : List Value} {K : Nat → Mem → Prop} (ok : m.Ok) (hK : ∀ b m', m.top ≤ b → b < m'.top → m'.Ok → Kp [] m m' → m'.row b 0 vs → BlkN m' b vs.length → K b m') : allocB m (Blk.ofList vs) K := by
  intro b hb
  refine hK b _ hb (by simp [Mem.new]) (ok.new hb _) (Kp.new ok hb _) (row_of fun i v hi => Mem.cell_of (Mem.new_at _ _ _) ?_) (BlkN.new b (Nat.le_refl _))
  rw [Nat.zero_add]; exact hi
theorem alloc_put {m : Mem} {zs vs : List Value} {K : Nat → Mem → Prop} (ok : m.Ok) (hl : vs.length ≤ zs.length) (h1 : ∀ v ∈ vs, oneC v = true) (h0 : vs ≠ [])
    (hK : ∀ b m', m.top ≤ b → b < m'.top → m'.Ok → Kp [] m m' → m'.row b 0 vs → BlkN m' b zs.length → K b m') : allocB m (Blk.ofList zs) fun b m1 => stL m1 b 0 vs fun m2 => K b m2 := by
  refine alloc_row ok ?_
  intro b m1 hb hlt ok1 kp1 _ bn1
  refine stL_put ok1 bn1 hl h1 h0 ?_
  intro m2 ok2 kp2 row2 bn2
  refine hK b m2 hb (by have := kp2.top; omega) ok2 (kp1.step kp2 ok (fun b' hb' => .inr (by simp at hb'; omega))) row2 bn2

def gPk (c : Int) (n : Nat) : Nat := if c < 0 then (-(c + 1)).toNat % n else c.toNat % n
theorem gPk_lt {c : Int} {n : Nat} (h : 0 < n) : gPk c n < n := by
  unfold gPk
  split <;> exact Nat.mod_lt _ h
theorem tmod_nat (a n : Nat) : Int.tmod (a : Int) (n : Int) = ((a % n : Nat) : Int) := by
  rw [Int.tmod_eq_emod_of_nonneg (Int.natCast_nonneg _)]; rfl
def I64 (c : Int) : Prop := -9223372036854775808 ≤ c ∧ c < 9223372036854775808
theorem tpick_spec {c : Int} {n : Nat} {K : Value → Mem → Prop} {m : Mem} (hn : 0 < n) (hc : I64 c) (hK : K (.int .i64 ((gPk c n : Nat) : Int)) m) : callOK Tryz.prog W0 10 [.int .i64 c, .int .i64 (n : Int)] K m := by
  refine call10 ?_
  unfold s10
  obtain ⟨h1, h2⟩ := hc
  unfold gPk at hK
  refine ifB_lt (fun hlt => ⟨by omega, ?_⟩) (fun hlt => ⟨by omega, ?_⟩)
  · rw [if_pos hlt] at hK
    rw [wrap_i64 (n := c + 1) (by omega) (by omega), wrap_i64 (by omega) (by omega)]
    have e : (0 - (c + 1) : Int) = (((-(c + 1)).toNat : Nat) : Int) := by omega
    rw [e, tmod_nat]; exact hK
  · rw [if_neg (by omega)] at hK
    have e : c = ((c.toNat : Nat) : Int) := by omega
    rw [e, tmod_nat]; exact hK

def gTurned (t : List UInt8) (c : Int) : List UInt8 := if c < 0 then t else if c ≥ t.length then t else t.set c.toNat (UInt8.ofNat (bXor .u8 ((t.getD c.toNat 0).toNat : Int) (IntKind.wrap .u8 1)).toNat)
theorem wrap8 (z : Int) : 0 ≤ IntKind.wrap .u8 z ∧ IntKind.wrap .u8 z < 256 := by
  simp [IntKind.wrap, IntKind.bits, IntKind.signed]; omega
theorem turned_spec {s : ByteArray} {c : Int} {K : Value → Mem → Prop} {m : Mem} (hK : ∀ s' m', m'.Ok → Kp [] m m' → bts s' = gTurned (bts s) c → K (.string s') m') : callOK Tryz.prog W0 13 [.string s, .int .i64 c, .int .i64 1] K m := by
  refine callOK_ok fun ok => call13 ?_
  unfold s13
  unfold gTurned at hK
  have hl := bts_len s
  refine ifB_lt (fun hlt => ?_) (fun hlt => ?_)
  · exact hK s m ok (Kp.refl _ _) (by rw [if_pos hlt])
  refine ifB_ge (fun hge => ?_) (fun hge => ?_)
  · exact hK s m ok (Kp.refl _ _) (by rw [if_neg (by omega), if_pos (by omega)])
  intro cap hcap b hb
  have hk1 := Kp.new (S := []) ok hb { wr := true, cell := fun i => if i < ByteArray.size s then (bytesV s)[i]? else if i < cap then some (.int .u8 0) else none }
  have ok1 := ok.new hb { wr := true, cell := fun i => if i < ByteArray.size s then (bytesV s)[i]? else if i < cap then some (.int .u8 0) else none }
  obtain ⟨f, hf⟩ : ∃ f : Blk, f = { wr := true, cell := fun i => if i < ByteArray.size s then (bytesV s)[i]? else if i < cap then some (.int .u8 0) else none } := ⟨_, rfl⟩
  rw [← hf] at hk1 ok1
  rw [← hf]
  have hb1 := Mem.new_at m b f
  generalize m.new b f = m1 at hk1 ok1 hb1
  have hcell : ∀ i, i < ByteArray.size s → f.cell i = some (.int .u8 ((bts s).getD i 0).toNat) := by
    intro i hi
    rw [hf]
    simp only [if_pos hi]
    unfold bytesV
    rw [List.getElem?_map, show s.data.toList = bts s from rfl, getD_some (l := bts s) (by omega) 0]
    rfl
  have hw : f.wr = true := by rw [hf]
  refine ⟨by omega, by omega, ?_⟩
  refine ⟨_, Mem.cell_of hb1 (by rw [Nat.zero_add]; exact hcell _ (by omega)), ?_⟩
  refine ⟨by omega, by omega, ?_⟩
  refine ⟨f, hb1, hw, by rw [Nat.zero_add, hcell _ (by omega)]; rfl, ?_⟩
  generalize hy : bXor .u8 ((((bts s).getD c.toNat 0).toNat : Nat) : Int) (IntKind.wrap .u8 1) = y at hK
  have hyr : 0 ≤ y ∧ y < 256 := by rw [← hy]; exact wrap8 _
  refine rdBytes_of (l := (bts s).set c.toNat (UInt8.ofNat y.toNat)) (by simp [hl]) ?_ ?_
  · refine row_of fun i v hi => ?_
    rw [Nat.zero_add]
    have hlt : i < s.size := by
      rcases Nat.lt_or_ge i s.size with h | h
      · exact h
      · rw [List.getElem?_eq_none (by simp [bytesL, hl]; omega)] at hi; cases hi
    refine Mem.cell_of (Mem.setB_at _ _ _) ?_
    simp only [Blk.upd, Nat.zero_add]
    simp only [bytesL, List.getElem?_map, List.getElem?_set] at hi
    by_cases he : i = c.toNat
    · rw [if_pos he]
      rw [if_pos he.symm, if_pos (by omega)] at hi
      simp only [Option.map_some, Option.some.injEq] at hi
      rw [← hi]
      have : ((UInt8.ofNat y.toNat).toNat : Int) = y := by rw [UInt8.toNat_ofNat']; omega
      rw [this]
    · rw [if_neg he, hcell i hlt]
      rw [if_neg (Ne.symm he), getD_some (l := bts s) (by omega) 0] at hi
      exact hi
  · intro s' hs'
    refine hK s' _ (ok1.setB hb1) (hk1.step (Kp.setB (S := [b]) hb1 hw _ (by simp)) ok (fun b' hb' => .inr (by simp at hb'; omega))) ?_
    rw [hs', if_neg (by omega), if_neg (by omega)]

theorem due_spec {n : Int} {K : Value → Mem → Prop} {m : Mem} (hn : 0 ≤ n ∧ n ≤ 4106) (hK : K (.int .i64 (gDueA 4 0 n)) m) : callOK Tryz.prog W0 125 [.int .i64 n] K m := by
  refine call125 ?_
  unfold s125
  generalize hr : gDueA 4 0 n = r at hK
  refine loop125_1 (γ := Nat) (fun k n' t2 r3 m' => m' = m ∧ r3 = k ∧ k ≤ 4 ∧ 0 ≤ n' ∧ n' ≤ 4106 ∧ gDueA (4 - k) k n' = r) (fun k _ _ _ => 4 - k) 0 ⟨rfl, rfl, by omega, hn.1, hn.2, hr⟩ ?_
  rintro k n' t2 r3 m' ⟨rfl, rfl, hk, h1, h2, h3⟩
  unfold s125_1
  refine ifB_lt (fun hlt => ?_) (fun hlt => ?_)
  · have hk4 : k = 0 ∨ k = 1 ∨ k = 2 ∨ k = 3 := by omega
    have hv : 1 ≤ goInterval ((k : Nat) : Int) ∧ goInterval ((k : Nat) : Int) ≤ 4 := by
      rcases hk4 with rfl | rfl | rfl | rfl <;> exact ⟨by decide, by decide⟩
    have e4 : 4 - k = (4 - (k + 1)) + 1 := by omega
    rw [e4] at h3
    simp only [gDueA] at h3
    refine ifB_lt (fun hx => ?_) (fun hx => ?_)
    · rw [if_pos hx] at h3
      rw [e125_1r]
      unfold s125_1r
      rw [h3]; exact hK
    · rw [if_neg (by omega)] at h3
      rw [wrap_i64 (by omega) (by omega)]
      exact ⟨k + 1, _, t2, _, rfl, ⟨rfl, wrapS k (by omega), by omega, by omega, by omega, h3⟩, by omega⟩
  · rw [e125_1x0]
    have : k = 4 := by omega
    subst this
    unfold s125_1x0
    simp only [Nat.sub_self, gDueA] at h3
    rw [h3]; exact hK
theorem gauges_spec {e0 e1 : Int} {sat : Bool} {a : Option Addr} {n c : Nat} {pf : ByteArray} {conf rest : Nat} {K : Value → Mem → Prop} {m : Mem} {s : Nat} (h1 : conf = ahead rest + s + (if sat = true then 0 else 1)) (h2 : conf ≤ 4106) (h3 : rest ≤ 4) (h4 : rest < 4 → s ≤ rest)
    (hK : ∀ m', m'.Ok → Kp [] m m' → K (.bool true) m') : callOK Tryz.prog W0 74 [.agg #[(.int .i64 e0), (.int .i64 e1), (.bool sat), (.slice a n c), (.string pf), (.int .i64 (conf : Int)), (.int .i64 (rest : Int))]] K m := by
  refine callOK_ok fun ok => call74 ?_
  unfold s74
  refine alloc_row ok ?_
  intro b m1 hb hlt ok1 kp1 row1 bn1
  obtain ⟨r0, r1, r2, r3, r4, r5, r6, _⟩ := row1
  refine ⟨_, r5, _, r2, ?_⟩
  have hd := due_is h3 h4
  refine ifB_not (fun hs => ?_) (fun hs => ?_)
  · rw [if_neg (by rw [hs]; simp)] at h1
    rw [wrap_i64 (by omega) (by omega)]
    refine ifB_lt (fun h => ?_) (fun _ => ?_)
    · have hF : False := by omega
      cases hF
    refine ⟨_, r5, ?_⟩
    refine ifB_gt (fun h => ?_) (fun _ => ?_)
    · have hF : False := by omega
      cases hF
    refine due_spec ⟨by omega, by omega⟩ ?_
    have e : ((conf : Nat) : Int) - 1 = ((ahead rest + s : Nat) : Int) := by omega
    rw [e, hd]
    refine ⟨_, rfl, _, r6, ?_⟩
    dsimp only
    rw [show (((rest : Nat) : Int) == ((rest : Nat) : Int)) = true from beq_self_eq_true _]
    exact hK m1 ok1 kp1
  · rw [if_pos hs] at h1
    refine ifB_lt (fun h => ?_) (fun _ => ?_)
    · have hF : False := by omega
      cases hF
    refine ⟨_, r5, ?_⟩
    refine ifB_gt (fun h => ?_) (fun _ => ?_)
    · have hF : False := by omega
      cases hF
    refine due_spec ⟨by omega, by omega⟩ ?_
    have e : ((conf : Nat) : Int) = ((ahead rest + s : Nat) : Int) := by omega
    rw [e, hd]
    refine ⟨_, rfl, _, r6, ?_⟩
    dsimp only
    rw [show (((rest : Nat) : Int) == ((rest : Nat) : Int)) = true from beq_self_eq_true _]
    exact hK m1 ok1 kp1
theorem sameAnswer_spec {e0 e1 : Int} {sat : Bool} {a a' : Option Addr} {n c n' c' : Nat} {pf pf' : ByteArray} {x5 x6 : Int} {l : List Int} {K : Value → Mem → Prop} {m : Mem} (h1 : SlI m a n l) (h2 : SlI m a' n' l) (hl : l.length < 2 ^ 62) (hp : bts pf = bts pf')
    (hK : ∀ m', m'.Ok → Kp [] m m' → K (.bool true) m') : callOK Tryz.prog W0 41 [.agg #[(.int .i64 e0), (.int .i64 e1), (.bool sat), (.slice a n c), (.string pf), (.int .i64 x5), (.int .i64 x6)], .agg #[(.int .i64 e0), (.int .i64 e1), (.bool sat), (.slice a' n' c'), (.string pf'), (.int .i64 x5), (.int .i64 x6)]] K m := by
  refine callOK_ok fun ok => call41 ?_
  have := bts_inj hp
  subst this
  unfold s41
  refine alloc_row ok ?_
  intro b m1 hb hlt ok1 kp1 row1 bn1
  refine alloc_row ok1 ?_
  intro b' m2 hb' hlt' ok2 kp2 row2 bn2
  obtain ⟨r0, r1, r2, r3, r4, r5, r6, _⟩ := kp2.row (by simp) row1
  obtain ⟨q0, q1, q2, q3, q4, q5, q6, _⟩ := row2
  refine ⟨_, r0, _, q0, ?_⟩
  refine ifB_ne (fun h => (h rfl).elim) (fun _ => ?_)
  refine ⟨_, r1, _, q1, ?_⟩
  refine ifB_ne (fun h => (h rfl).elim) (fun _ => ?_)
  refine ⟨_, r2, _, q2, ?_⟩
  refine ifB_not (fun h => by simp at h) (fun _ => ?_)
  refine ⟨_, r4, _, q4, ?_⟩
  refine ifB_not (fun h => by simp at h) (fun _ => ?_)
  refine ⟨_, r5, _, q5, ?_⟩
  refine ifB_ne (fun h => (h rfl).elim) (fun _ => ?_)
  refine ⟨_, r6, _, q6, ?_⟩
  refine ifB_ne (fun h => (h rfl).elim) (fun _ => ?_)
  refine ⟨_, _, _, r3, _, _, _, q3, ?_⟩
  refine sameInts_spec ((h1.keep0 kp1).keep0 kp2) ((h2.keep0 kp1).keep0 kp2) hl ?_
  refine ⟨_, rfl, ?_⟩
  rw [decide_eq_true rfl]
  exact hK m2 ok2 (kp1.trans kp2)
theorem gModelA_len (t : Tr) : ∀ n v, (gModelA t n v).length = n
  | 0, _ => rfl
  | n + 1, v => by simp [gModelA, gModelA_len t n (v + 1)]
theorem gModelA_get (t : Tr) : ∀ n v k, k < n → (gModelA t n v).getD k 0 = gModel t (v + k)
  | 0, _, _, h => by omega
  | n + 1, v, 0, _ => rfl
  | n + 1, v, k + 1, h => by
    have := gModelA_get t n (v + 1) k (by omega)
    rw [show v + (k + 1) = v + 1 + k by omega, ← this]; rfl
theorem shl_i64 {j : Nat} (h : j < 12) : shlV .i64 1 (IntKind.wrap .u64 (IntKind.wrap .i64 (((j + 1 : Nat) : Int) - 1))) = ((2 ^ j : Nat) : Int) := by
  have : j = 0 ∨ j = 1 ∨ j = 2 ∨ j = 3 ∨ j = 4 ∨ j = 5 ∨ j = 6 ∨ j = 7 ∨ j = 8 ∨ j = 9 ∨ j = 10 ∨ j = 11 := by omega
  rcases this with rfl | rfl | rfl | rfl | rfl | rfl | rfl | rfl | rfl | rfl | rfl | rfl <;> rfl
theorem or_i64 {x j : Nat} (h : j < 12) (hx : x < 2 ^ j) : bOr .i64 (x : Int) ((2 ^ j : Nat) : Int) = ((x + 2 ^ j : Nat) : Int) := by
  have hp : 2 ^ j < 4096 := by
    have : 2 ^ j < 2 ^ 12 := Nat.pow_lt_pow_right (by omega) h
    omega
  have h1 : (BitVec.ofInt (IntKind.bits .i64) (x : Int)).toNat = x := by
    rw [BitVec.toNat_ofInt]
    simp only [IntKind.bits]
    omega
  have h2 : (BitVec.ofInt (IntKind.bits .i64) ((2 ^ j : Nat) : Int)).toNat = 2 ^ j := by
    rw [BitVec.toNat_ofInt]
    simp only [IntKind.bits]
    omega
  unfold bOr
  rw [BitVec.toNat_or, h1, h2]
  have := Nat.two_pow_add_eq_or_of_lt hx 1
  rw [Nat.mul_one] at this
  rw [Nat.or_comm, ← this, wrap_i64 (by omega) (by omega)]
  omega
theorem mask_spec {t : Tr} {a : Option Addr} {n c : Nat} {l : List Int} {K : Value → Mem → Prop} {m : Mem} (h : SlI m a n l) (hl : l = gModelA t 12 1) (hK : K (.tuple #[.int .i64 ((maskA t 12 : Nat) : Int), .bool true]) m) : callOK Tryz.prog W0 76 [.slice a n c] K m := by
  refine call76 ?_
  have e := h.len
  have e2 : l.length = 12 := by rw [hl]; exact gModelA_len t 12 1
  unfold s76
  refine ifB_ne (fun h0 => ?_) (fun _ => ?_)
  · have hF : False := by omega
    cases hF
  generalize hr : maskA t 12 = r at hK
  refine loop76_1 (γ := Nat) (fun k t2 t3 mask v m' => m' = m ∧ v = ((k + 1 : Nat) : Int) ∧ k ≤ 12 ∧ mask = ((maskA t k : Nat) : Int)) (fun k _ _ _ _ => 13 - k) 0 ⟨rfl, rfl, by omega, rfl⟩ ?_
  rintro k t2 t3 mask v m' ⟨rfl, rfl, hk, rfl⟩
  unfold s76_1
  refine ifB_le (fun hle => ?_) (fun hle => ?_)
  · have ew : IntKind.wrap .i64 (((k + 1 : Nat) : Int) - 1) = (k : Int) := by rw [wrap_i64 (by omega) (by omega)]; omega
    rw [ew]
    refine h.get (by omega) (by omega) fun _ _ _ => ?_
    have eg : l.getD ((k : Nat) : Int).toNat 0 = gModel t (1 + k) := by rw [Int.toNat_natCast, hl]; exact gModelA_get t 12 1 k (by omega)
    rw [eg]
    have em : gModel t (1 + k) = if t.value ((k + 1 : Nat) : Int) = 1 then ((k + 1 : Nat) : Int) else -((k + 1 : Nat) : Int) := by
      unfold gModel; rw [Nat.add_comm]
    rw [em]
    have es : maskA t (k + 1) = maskA t k + (if t.value ((k + 1 : Nat) : Int) = 1 then 2 ^ k else 0) := rfl
    by_cases hv : t.value ((k + 1 : Nat) : Int) = 1
    · rw [if_pos hv]
      rw [if_pos hv] at es
      with_reducible refine ifB_eq (fun _ => ?_) (fun h0 => ?_)
      case refine_2 =>
        have hF : False := h0 rfl
        cases hF
      refine ⟨by rw [wrap_u64 (by omega) (by omega)]; omega, ?_⟩
      refine ⟨k + 1, t2, t3, _, _, rfl, ⟨rfl, wrapS (k + 1) (by omega), by omega, ?_⟩, by omega⟩
      rw [es, ← ew, shl_i64 (by omega)]
      exact or_i64 (by omega) (maskA_lt t k)
    · rw [if_neg hv]
      rw [if_neg hv] at es
      with_reducible refine ifB_eq (fun h0 => ?_) (fun _ => ?_)
      · have hF : False := by omega
        cases hF
      rw [wrap_i64 (n := 0 - ((k + 1 : Nat) : Int)) (by omega) (by omega)]
      with_reducible refine ifB_ne (fun h0 => ?_) (fun _ => ?_)
      · have hF : False := h0 (by omega)
        cases hF
      exact ⟨k + 1, t2, t3, _, _, rfl, ⟨rfl, wrapS (k + 1) (by omega), by omega, by rw [es, Nat.add_zero]⟩, by omega⟩
  · rw [e76_1x0]
    have : k = 12 := by omega
    subst this
    unfold s76_1x0
    rw [hr]; exact hK
end Go.Proofs.Qxb6500974aGreat
