import Derived.Test.Qxb6500974aGreatM6
set_option linter.all false
set_option linter.unusedSimpArgs false
set_option linter.unusedVariables false
namespace Go.Proofs.Qxb6500974aGreat
open Go.Eng
variable {W0 : World}

def bts (s : ByteArray) : List UInt8 := s.data.toList
theorem bts_len (s : ByteArray) : (bts s).length = s.size := by unfold bts; rw [Array.length_toList]; rfl
theorem ckS_of {s : ByteArray} {i : Int} {K : UInt8 → Prop} (h0 : 0 ≤ i) (h1 : i < s.size) (hK : K ((bts s).getD i.toNat 0)) : ckS s i K := by
  have hlt : i.toNat < s.size := by omega
  refine ⟨h0, s[i.toNat], getElem?_pos s i.toNat hlt, ?_⟩
  have : (bts s).getD i.toNat 0 = s[i.toNat] := by
    have h2 : i.toNat < (bts s).length := by rw [bts_len]; exact hlt
    simp only [List.getD, List.getElem?_eq_getElem h2, Option.getD_some]
    simp only [bts, Array.getElem_toList]
    rfl
  rw [← this]; exact hK

def isDig (c : UInt8) : Bool := decide (48 ≤ c.toNat ∧ c.toNat ≤ 57)
def gBad (t : List UInt8) : Nat → Nat → Option Nat
  | 0, _ => none
  | n + 1, k => if isDig (t.getD k 0) = true then gBad t n (k + 1) else some k
def satur (v : Int) : Int := if 12 < v then 13 else v
def gV (t : List UInt8) : Nat → Nat → Int → Int
  | 0, _, v => v
  | n + 1, k, v => gV t n (k + 1) (satur (v * 10 + ((t.getD k 0).toNat - 48)))
def gNumA (t : List UInt8) (a b i : Nat) (neg : Bool) : Int × Bool × Int × Int :=
  match gBad t (b - i) i with
  | some k => (0, false, 2, k)
  | none => if i = b then (0, false, 3, a) else
    if gV t (b - i) i 0 = 0 ∧ neg = true then (0, false, 3, a) else if 12 < gV t (b - i) i 0 then (0, false, 4, a) else (gV t (b - i) i 0, neg, 0, 0)
def gNum (t : List UInt8) (a b : Nat) : Int × Bool × Int × Int := if t.getD a 0 = 45 then gNumA t a b (a + 1) true else gNumA t a b a false
theorem gBad_some {t : List UInt8} : ∀ {n k j : Nat}, gBad t n k = some j → k ≤ j ∧ j < k + n
  | 0, k, j, h => by simp [gBad] at h
  | n + 1, k, j, h => by
    simp only [gBad] at h
    split at h
    · have := gBad_some h; omega
    · cases h; omega
theorem gBad_none {t : List UInt8} : ∀ {n k : Nat}, gBad t n k = none → ∀ j, k ≤ j → j < k + n → isDig (t.getD j 0) = true
  | 0, k, h, j, h1, h2 => by omega
  | n + 1, k, h, j, h1, h2 => by
    simp only [gBad] at h
    split at h
    · rename_i h3
      by_cases hj : j = k
      · subst hj; exact h3
      · exact gBad_none h j (by omega) (by omega)
    · cases h
theorem u8_eq45 (c : UInt8) : (((UInt8.toNat c : Nat) : Int) == 45) = decide (c = 45) := by
  have : (c = 45) ↔ c.toNat = 45 := by rw [← UInt8.toNat_inj]; rfl
  by_cases h : c = 45
  · simp [h]
  · have : ¬ c.toNat = 45 := fun h0 => h (this.2 h0)
    have h2 : ¬ ((c.toNat : Int) = 45) := by omega
    simp [h, h2]
theorem number_spec {s : ByteArray} {a b : Nat} {r : Int × Bool × Int × Int} {K : Value → Mem → Prop} {m : Mem} (hab : a < b) (hb : b ≤ s.size) (hs : s.size < 2 ^ 44) (hr : gNum (bts s) a b = r)
    (hK : K (.tuple #[.int .i64 r.1, .bool r.2.1, .int .i64 r.2.2.1, .int .i64 r.2.2.2]) m) : callOK Tryz.prog W0 129 [.string s, .int .i64 a, .int .i64 b] K m := by
  refine call129 ?_
  obtain ⟨t, ht⟩ : ∃ t, bts s = t := ⟨_, rfl⟩
  have htl : t.length = s.size := by rw [← ht]; exact bts_len s
  rw [ht] at hr
  unfold s129
  refine ckS_of (by omega) (by omega) ?_
  simp only [Int.toNat_natCast, ht]
  have key := fun (i : Nat) (ng : Bool) (hi : i ≤ b) (hr : gNumA t a b i ng = r) => loop129_1 (C := callOK Tryz.prog W0) (text0 := s) (a1 := (a : Int)) (b2 := (b : Int)) (i10 := (i : Int)) (neg11 := ng) (K := K) (m := m) (γ := Nat)
    (fun k t6 t7 t8 t9 k12 m' => m' = m ∧ k12 = k ∧ i ≤ k ∧ k ≤ b ∧ gBad t (b - k) k = gBad t (b - i) i) (fun k _ _ _ _ _ => b - k) i (t6 := 0) (t7 := false) (t8 := 0) (t9 := 0) (k12 := (i : Int)) ⟨rfl, rfl, by omega, by omega, rfl⟩ (by
      rintro k t6 t7 t8 t9 k12 m' ⟨rfl, rfl, hik, hkb, hj⟩
      unfold s129_1
      refine ifB_lt (fun hlt => ?_) (fun hlt => ?_)
      · have ek : b - k = (b - (k + 1)) + 1 := by omega
        rw [ek] at hj
        simp only [gBad] at hj
        have bad : isDig (t.getD k 0) = false → gNumA t a b i ng = (0, false, 2, (k : Int)) := by
          intro h0
          rw [if_neg (by rw [h0]; decide)] at hj
          unfold gNumA
          rw [← hj]
        refine ckS_of (by omega) (by omega) ?_
        simp only [Int.toNat_natCast, ht]
        refine ifB_lt (fun h1 => ?_) (fun h1 => ?_)
        · rw [e129_1r]
          rw [bad (by simp only [isDig, decide_eq_false_iff_not]; omega)] at hr
          subst hr; exact hK
        · refine ckS_of (by omega) (by omega) ?_
          simp only [Int.toNat_natCast, ht]
          refine ifB_gt (fun h2 => ?_) (fun h2 => ?_)
          · rw [e129_1r]
            rw [bad (by simp only [isDig, decide_eq_false_iff_not]; omega)] at hr
            subst hr; exact hK
          · rw [if_pos (by simp only [isDig, decide_eq_true_eq]; omega)] at hj
            exact ⟨k + 1, _, _, _, _, _, rfl, ⟨rfl, wrapS k (by omega), by omega, by omega, hj⟩, by omega⟩
      · rw [e129_1x0]
        have : k = b := by omega
        subst this
        have hno : gBad t (k - i) i = none := by rw [← hj, Nat.sub_self]; rfl
        have hdig := gBad_none hno
        unfold gNumA at hr
        rw [hno] at hr
        dsimp only at hr
        unfold s129_1x0
        refine ifB_eq (fun he => ?_) (fun he => ?_)
        · rw [if_pos (by omega)] at hr
          subst hr; exact hK
        · rw [if_neg (by omega)] at hr
          refine loop129_2 (γ := Nat) (fun q v q14 m1 => m1 = m' ∧ q14 = q ∧ i ≤ q ∧ q ≤ k ∧ (0 ≤ v ∧ v ≤ 13) ∧ gV t (k - q) q v = gV t (k - i) i 0) (fun q _ _ => k - q) i ⟨rfl, rfl, by omega, by omega, by omega, rfl⟩ ?_
          rintro q v q14 m1 ⟨rfl, rfl, hiq, hqk, hv, hj2⟩
          unfold s129_2
          refine ifB_lt (fun hlt2 => ?_) (fun hlt2 => ?_)
          · have ek : k - q = (k - (q + 1)) + 1 := by omega
            rw [ek] at hj2
            simp only [gV] at hj2
            refine ckS_of (by omega) (by omega) ?_
            simp only [Int.toNat_natCast, ht]
            have hd := hdig q hiq (by omega)
            simp only [isDig, decide_eq_true_eq] at hd
            generalize (t.getD q 0).toNat = d at hd hj2 ⊢
            rw [wrap_u8 (by omega) (by omega), wrap_i64 (n := (d : Int) - 48) (by omega) (by omega), wrap_i64 (n := v * 10) (by omega) (by omega), wrap_i64 (n := v * 10 + ((d : Int) - 48)) (by omega) (by omega)]
            refine ifB_gt (fun h1 => ?_) (fun h1 => ?_)
            · have hsat : satur (v * 10 + ((d : Int) - 48)) = 13 := by unfold satur; rw [if_pos (by omega)]
              rw [hsat] at hj2
              exact ⟨q + 1, _, _, rfl, ⟨rfl, wrapS q (by omega), by omega, by omega, by omega, hj2⟩, by omega⟩
            · have hsat : satur (v * 10 + ((d : Int) - 48)) = v * 10 + ((d : Int) - 48) := by unfold satur; rw [if_neg (by omega)]
              rw [hsat] at hj2
              exact ⟨q + 1, _, _, rfl, ⟨rfl, wrapS q (by omega), by omega, by omega, by omega, hj2⟩, by omega⟩
          · rw [e129_2x2]
            have : q = k := by omega
            subst this
            have hv2 : v = gV t (q - i) i 0 := by rw [← hj2, Nat.sub_self]; rfl
            rw [← hv2] at hr
            unfold s129_2x2
            have tail : v ≠ 0 ∨ ng = false → ifB (decide (v > 12)) (K (.tuple #[.int .i64 0, .bool false, .int .i64 4, .int .i64 a]) m1) (K (.tuple #[.int .i64 v, .bool ng, .int .i64 0, .int .i64 0]) m1) := by
              intro h0
              rw [if_neg (by rcases h0 with h0 | h0 <;> simp [h0])] at hr
              refine ifB_gt (fun h1 => ?_) (fun h1 => ?_)
              · rw [if_pos h1] at hr; subst hr; exact hK
              · rw [if_neg (by omega)] at hr; subst hr; exact hK
            refine ifB_eq (fun h0 => ?_) (fun h0 => ?_)
            · refine ifB_of (fun h1 => ?_) (fun h1 => ?_)
              · rw [if_pos ⟨h0, h1⟩] at hr; subst hr; exact hK
              · exact tail (.inr h1)
            · exact tail (.inl h0))
  rw [u8_eq45]
  unfold gNum at hr
  refine ifB_dec (fun he => ?_) (fun he => ?_)
  · rw [if_pos he] at hr
    rw [wrapS a (by omega)]
    have hd : decide (t.getD a 0 = 45) = true := by simpa using he
    rw [hd]
    exact key (a + 1) true (by omega) hr
  · rw [if_neg he] at hr
    have hd : decide (t.getD a 0 = 45) = false := by simpa using he
    rw [hd]
    exact key a false (by omega) hr

def gItoa (x : Int) : List UInt8 := (if x < 0 then [45] else []) ++ (if 10 ≤ x.natAbs then [UInt8.ofNat (48 + x.natAbs / 10), UInt8.ofNat (48 + x.natAbs % 10)] else [UInt8.ofNat (48 + x.natAbs)])
def bytesL (l : List UInt8) : List Value := l.map fun x => .int .u8 x.toNat
theorem rdBytes_of {m : Mem} {b o n : Nat} {l : List UInt8} {K : ByteArray → Prop} (hn : l.length = n) (hr : m.row b o (bytesL l)) (hK : ∀ s, bts s = l → K s) : rdBytes m (some ⟨b, o, none⟩) n K :=
  ⟨⟨l.toArray⟩, by simp [ByteArray.size, hn], by simpa [bytesV, bytesL] using hr, hK _ (by simp [bts])⟩

def tailOf (f : Blk) (l : List UInt8) : Prop := ∀ i x, l[i]? = some x → f.cell (24 - l.length + i) = some (.int .u8 x.toNat)
theorem itoa_spec {x : Int} {K : Value → Mem → Prop} {m : Mem} (hx : goGoodLit x = true) (hK : ∀ s m', bts s = gItoa x → m'.Ok → Kp [] m m' → K (.string s) m') : callOK Tryz.prog W0 131 [.int .i64 x] K m := by
  refine callOK_ok fun ok => call131 ?_
  simp only [goGoodLit, decide_eq_true_eq] at hx
  unfold s131
  refine ifB_eq (fun h0 => absurd h0 hx.1) (fun _ => ?_)
  intro b hb
  have hz : zeroBlk Tryz.prog 194 = Blk.ofList (List.replicate 24 (.int .u8 0)) := by kernel_rfl
  rw [hz]
  have hkm := Kp.new (S := []) ok hb (Blk.ofList (List.replicate 24 (.int .u8 0)))
  have hpow : ∀ d : Nat, d < 10 → (UInt8.ofNat (48 + d)).toNat = 48 + d := by intro d hd; simp [UInt8.toNat_ofNat']; omega
  refine loop131_1 (γ := List UInt8) (fun ds n i m' => i = ((24 - ds.length : Nat) : Int) ∧ m'.Ok ∧ Kp [] m m' ∧ (∃ f, m'.blk b = some f ∧ f.wr = true ∧ (∀ i, i < 24 → (f.cell i).isSome = true) ∧ tailOf f ds) ∧
      ((n = x ∧ ds = []) ∨ (10 ≤ x.natAbs ∧ n = (if x < 0 then -1 else 1) ∧ ds = [UInt8.ofNat (48 + x.natAbs % 10)]) ∨ (n = 0 ∧ ds = if 10 ≤ x.natAbs then [UInt8.ofNat (48 + x.natAbs / 10), UInt8.ofNat (48 + x.natAbs % 10)] else [UInt8.ofNat (48 + x.natAbs)])))
    (fun _ n _ => n.natAbs) [] ⟨rfl, ok.new hb _, hkm, ⟨_, Mem.new_at _ _ _, rfl, ?_, ?_⟩, .inl ⟨rfl, rfl⟩⟩ ?_
  · intro i hi
    simp [Blk.ofList, hi]
  · intro i x hi; simp at hi
  rintro ds n i m1 ⟨rfl, ok1, kp1, ⟨f, hf1, hf2, hf3, hf4⟩, hst⟩
  unfold s131_1

  have step : ∀ (d : Nat) (v : Value), d < 10 → v = .int .u8 ((48 + d : Nat) : Int) → ds.length < 24 → ∀ (K2 : Mem → Prop),
      (∀ m', m'.Ok → Kp [] m m' → (∃ f', m'.blk b = some f' ∧ f'.wr = true ∧ (∀ i, i < 24 → (f'.cell i).isSome = true) ∧ tailOf f' (UInt8.ofNat (48 + d) :: ds)) → K2 m') →
      ckI (IntKind.wrap .i64 (((24 - ds.length : Nat) : Int) - 1)) 24 fun j => st m1 b (0 + j) v K2 := by
    intro d v hd hv hlen K2 hK2
    rw [wrap_i64 (by omega) (by omega)]
    refine ⟨by omega, by omega, ?_⟩
    have ej : ((((24 - ds.length : Nat) : Int) - 1).toNat) = 24 - (ds.length + 1) := by omega
    rw [ej]
    refine ⟨f, hf1, hf2, by rw [Nat.zero_add]; exact hf3 _ (by omega), ?_⟩
    have hk3 : Kp [b] m1 _ := Kp.setB (S := [b]) hf1 hf2 (f.upd (0 + (24 - (ds.length + 1))) v) (by simp)
    refine hK2 _ (ok1.setB hf1) (kp1.step hk3 ok (fun b' hb' => .inr (by simp at hb'; omega))) ⟨_, Mem.setB_at _ _ _, hf2, ?_, ?_⟩
    · intro i hi
      simp only [Blk.upd]
      split
      · rfl
      · exact hf3 i hi
    · intro i y hi
      simp only [Blk.upd, List.length_cons]
      cases i with
      | zero =>
        simp only [List.getElem?_cons_zero, Option.some.injEq] at hi
        subst hi
        rw [if_pos (by omega), hv, hpow d hd]
      | succ i =>
        rw [if_neg (by omega)]
        have := hf4 i y (by simpa using hi)
        rw [show 24 - (ds.length + 1) + (i + 1) = 24 - ds.length + i by omega]
        exact this
  have fin : ∀ (i : Int) (Kx : Mem → Prop), True := fun _ _ => trivial
  refine ifB_ne (fun hn => ?_) (fun hn => ?_)
  · refine ⟨by decide, ?_⟩
    rcases hst with ⟨rfl, rfl⟩ | ⟨h10, hn1, rfl⟩ | ⟨hn0, _⟩
    ·
      have htd : Int.tdiv n 10 = if 10 ≤ n.natAbs then (if n < 0 then -1 else 1) else 0 := by
        by_cases hs : 0 ≤ n
        · rw [Int.tdiv_eq_ediv_of_nonneg hs, if_neg (show ¬ n < 0 by omega)]
          split <;> omega
        · rw [if_pos (show n < 0 by omega)]
          have hn2 : n = -((n.natAbs : Nat) : Int) := by omega
          have hb12 : n.natAbs ≤ 12 := by omega
          generalize n.natAbs = k at *
          subst hn2
          rw [Int.neg_tdiv, Int.tdiv_eq_ediv_of_nonneg (by omega)]
          split <;> omega
      have hd : Int.tmod n 10 = if n < 0 then -((n.natAbs % 10 : Nat) : Int) else ((n.natAbs % 10 : Nat) : Int) := by
        by_cases hs : 0 ≤ n
        · rw [Int.tmod_eq_emod_of_nonneg hs, if_neg (show ¬ n < 0 by omega)]; omega
        · rw [if_pos (show n < 0 by omega)]
          have hn2 : n = -((n.natAbs : Nat) : Int) := by omega
          generalize n.natAbs = k at *
          subst hn2
          rw [Int.neg_tmod, Int.tmod_eq_emod_of_nonneg (by omega)]
          simp
      have done : ∀ m2 : Mem, m2.Ok → Kp [] m m2 → (∃ f', m2.blk b = some f' ∧ f'.wr = true ∧ (∀ i, i < 24 → (f'.cell i).isSome = true) ∧ tailOf f' [UInt8.ofNat (48 + n.natAbs % 10)]) →
          (IntKind.wrap .i64 (((24 - ([] : List UInt8).length : Nat) : Int) - 1) = ((24 - [UInt8.ofNat (48 + n.natAbs % 10)].length : Nat) : Int) ∧ m2.Ok ∧ Kp [] m m2 ∧ (∃ f', m2.blk b = some f' ∧ f'.wr = true ∧ (∀ i, i < 24 → (f'.cell i).isSome = true) ∧ tailOf f' [UInt8.ofNat (48 + n.natAbs % 10)]) ∧
            ((IntKind.wrap .i64 (Int.tdiv n 10) = n ∧ [UInt8.ofNat (48 + n.natAbs % 10)] = []) ∨ (10 ≤ n.natAbs ∧ IntKind.wrap .i64 (Int.tdiv n 10) = (if n < 0 then -1 else 1) ∧ [UInt8.ofNat (48 + n.natAbs % 10)] = [UInt8.ofNat (48 + n.natAbs % 10)]) ∨
              (IntKind.wrap .i64 (Int.tdiv n 10) = 0 ∧ [UInt8.ofNat (48 + n.natAbs % 10)] = if 10 ≤ n.natAbs then [UInt8.ofNat (48 + n.natAbs / 10), UInt8.ofNat (48 + n.natAbs % 10)] else [UInt8.ofNat (48 + n.natAbs)]))) ∧
          (IntKind.wrap .i64 (Int.tdiv n 10)).natAbs < n.natAbs := by
        intro m2 ok2 kp2 hf2'
        have hw : IntKind.wrap .i64 (Int.tdiv n 10) = Int.tdiv n 10 := by rw [htd]; exact wrap_i64 (by repeat' split <;> omega) (by repeat' split <;> omega)
        rw [hw, htd]
        refine ⟨⟨by rw [wrap_i64 (by simp) (by simp)]; simp, ok2, kp2, hf2', ?_⟩, ?_⟩
        · by_cases h10 : 10 ≤ n.natAbs
          · right; left
            rw [if_pos h10]; exact ⟨h10, rfl, rfl⟩
          · right; right
            rw [if_neg h10, if_neg h10]; refine ⟨rfl, ?_⟩
            rw [Nat.mod_eq_of_lt (by omega)]
        · repeat' split
          all_goals omega
      refine ifB_lt (fun hneg => ?_) (fun hneg => ?_)
      · have hxn : n < 0 := by
          by_cases hs : n < 0
          · exact hs
          · rw [hd, if_neg hs] at hneg; omega
        rw [if_pos hxn] at hd
        refine step (n.natAbs % 10) _ (by omega) ?_ (by simp) _ ?_
        · rw [hd, wrap_i64 (n := 0 - -((n.natAbs % 10 : Nat) : Int)) (by omega) (by omega), wrap_i64 (by omega) (by omega), wrap_u8 (by omega) (by omega)]
          congr 1; omega
        intro m2 ok2 kp2 hf2'
        refine ⟨by decide, ?_⟩
        obtain ⟨hA, hB⟩ := done m2 ok2 kp2 hf2'
        exact ⟨[UInt8.ofNat (48 + n.natAbs % 10)], _, _, rfl, hA, hB⟩
      · have hd2 : Int.tmod n 10 = ((n.natAbs % 10 : Nat) : Int) := by
          rw [hd] at hneg ⊢
          split at hneg
          · split <;> omega
          · rename_i h0; rw [if_neg h0]
        refine step (n.natAbs % 10) _ (by omega) ?_ (by simp) _ ?_
        · rw [hd2, wrap_i64 (by omega) (by omega), wrap_u8 (by omega) (by omega)]
          congr 1
        intro m2 ok2 kp2 hf2'
        refine ⟨by decide, ?_⟩
        obtain ⟨hA, hB⟩ := done m2 ok2 kp2 hf2'
        exact ⟨[UInt8.ofNat (48 + n.natAbs % 10)], _, _, rfl, hA, hB⟩
    ·
      have h12 : x.natAbs ≤ 12 := by omega
      have ht1 : x.natAbs / 10 = 1 := by omega
      refine ifB_lt (fun hneg => ?_) (fun hneg => ?_)
      · have hxn : x < 0 := by
          by_cases hs : x < 0
          · exact hs
          · rw [if_neg hs] at hn1; subst hn1; exact absurd hneg (by decide)
        rw [if_pos hxn] at hn1
        subst hn1
        refine step 1 _ (by omega) ?_ (by simp) _ ?_
        · rfl
        intro m2 ok2 kp2 hf2'
        refine ⟨by decide, ?_⟩
        refine ⟨[UInt8.ofNat (48 + 1), UInt8.ofNat (48 + x.natAbs % 10)], _, _, rfl, ⟨?_, ok2, kp2, hf2', ?_⟩, ?_⟩
        · simp only [List.length_cons, List.length_nil]; decide
        · right; right
          rw [if_pos h10, ht1]; exact ⟨by decide, rfl⟩
        · decide
      · have hxn : ¬ x < 0 := by
          intro hs
          rw [if_pos hs] at hn1; subst hn1; exact absurd hneg (by decide)
        rw [if_neg hxn] at hn1
        subst hn1
        refine step 1 _ (by omega) ?_ (by simp) _ ?_
        · rfl
        intro m2 ok2 kp2 hf2'
        refine ⟨by decide, ?_⟩
        refine ⟨[UInt8.ofNat (48 + 1), UInt8.ofNat (48 + x.natAbs % 10)], _, _, rfl, ⟨?_, ok2, kp2, hf2', ?_⟩, ?_⟩
        · simp only [List.length_cons, List.length_nil]; decide
        · right; right
          rw [if_pos h10, ht1]; exact ⟨by decide, rfl⟩
        · decide
    · exact absurd hn0 hn
  · rw [e131_1x0]
    unfold s131_1x0
    have hds : ds = if 10 ≤ x.natAbs then [UInt8.ofNat (48 + x.natAbs / 10), UInt8.ofNat (48 + x.natAbs % 10)] else [UInt8.ofNat (48 + x.natAbs)] := by
      rcases hst with ⟨h1, _⟩ | ⟨_, h1, _⟩ | ⟨_, h1⟩
      · exact absurd (h1 ▸ hn) hx.1
      · split at h1 <;> omega
      · exact h1
    have hlen : ds.length = 1 ∨ ds.length = 2 := by rw [hds]; split <;> simp
    have rd : ∀ (m2 : Mem) (l : List UInt8) (Kx : ByteArray → Prop), (∃ f, m2.blk b = some f ∧ tailOf f l) → l.length < 24 → 0 < l.length → (∀ s, bts s = l → Kx s) → rdBytes m2 (slA (some ⟨b, 0, none⟩) (24 - l.length) 24 1) (24 - (24 - l.length)) Kx := by
      rintro m2 l Kx ⟨f, h1, h2⟩ hl hl0 hKx
      have hsl : slA (some ⟨b, 0, none⟩) (24 - l.length) 24 1 = some ⟨b, 24 - l.length, none⟩ := by
        unfold slA
        rw [if_neg (by omega)]
        simp only [Option.map_some, Addr.add]
        rw [if_neg (by omega)]
        simp
      rw [hsl]
      refine rdBytes_of (by omega) ?_ hKx
      refine row_of fun i v hi => Mem.cell_of h1 ?_
      simp only [bytesL, List.getElem?_map] at hi
      cases hli : l[i]? with
      | none => simp [hli] at hi
      | some y => simp [hli] at hi; subst hi; exact h2 i y hli
    refine ifB_dec (fun hneg => ?_) (fun hneg => ?_)
    · rw [wrap_i64 (by omega) (by omega)]
      refine ⟨by omega, by omega, ?_⟩
      have ej : ((((24 - ds.length : Nat) : Int) - 1).toNat) = 24 - (ds.length + 1) := by omega
      rw [ej]
      refine ⟨f, hf1, hf2, by rw [Nat.zero_add]; exact hf3 _ (by omega), ?_⟩
      refine ⟨by omega, by omega, ?_⟩
      rw [ej]
      have hk3 : Kp [b] m1 _ := Kp.setB (S := [b]) hf1 hf2 (f.upd (0 + (24 - (ds.length + 1))) (.int .u8 45)) (by simp)
      refine rd _ (45 :: ds) _ ⟨_, Mem.setB_at _ _ _, ?_⟩ (by simp; omega) (by simp) ?_
      · intro i y hi
        simp only [Blk.upd, List.length_cons]
        cases i with
        | zero =>
          simp only [List.getElem?_cons_zero, Option.some.injEq] at hi
          subst hi
          rw [if_pos (by omega)]
          rfl
        | succ i =>
          rw [if_neg (by omega)]
          have := hf4 i y (by simpa using hi)
          rw [show 24 - (ds.length + 1) + (i + 1) = 24 - ds.length + i by omega]
          exact this
      · intro s hs
        refine hK s _ ?_ (ok1.setB hf1) (kp1.step hk3 ok (fun b' hb' => .inr (by simp at hb'; omega)))
        rw [hs, gItoa, if_pos hneg, ← hds]; rfl
    · refine ⟨by omega, by omega, ?_⟩
      simp only [Int.toNat_natCast]
      refine rd m1 ds _ ⟨f, hf1, hf4⟩ (by omega) (by omega) ?_
      intro s hs
      refine hK s _ ?_ ok1 kp1
      rw [hs, gItoa, if_neg hneg, ← hds]; rfl
end Go.Proofs.Qxb6500974aGreat
