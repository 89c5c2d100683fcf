import Derived.Test.Qxb6500974aGreatM7
set_option linter.all false
set_option linter.unusedSimpArgs false
set_option linter.unusedVariables false
namespace Go.Proofs.Qxb6500974aGreat
open Go.Eng
variable {W0 : World}

def PM (m : Mem) (p : Nat) : Prop := ∃ f x y, m.blk p = some f ∧ f.wr = true ∧ f.cell 0 = some (.int .i64 x) ∧ f.cell 1 = some (.int .i64 y)
theorem PM.keep {S : List Nat} {m m' : Mem} {p : Nat} (h : PM m p) (hk : Kp S m m') (hp : p ∉ S) : PM m' p := by
  obtain ⟨f, x, y, h1, h2⟩ := h
  exact ⟨f, x, y, hk.keep p f hp h1, h2⟩
theorem PM.lt {m : Mem} {p : Nat} (ok : m.Ok) (h : PM m p) : p < m.top := by
  obtain ⟨f, x, y, h1, h2⟩ := h
  exact ok p f h1

theorem appS {m : Mem} {a : Option Addr} {n c : Nat} {L : List UInt8} {s : ByteArray} {K : Option Addr → Nat → Mem → Prop} (ok : m.Ok) (h : EB.own m a n c L) (hsm : L.length + s.size < 2 ^ 40)
    (hK : ∀ a' c' m', m'.Ok → Kp (blkOf a) m m' → EB.own m' a' (n + s.size) c' (L ++ bts s) → InS (blkOf a) m (blkOf a') → K a' c' m') : appendC m 1 1 [.int .u8 0] a n c s.size (bytesV s) K := by
  have e0 := h.len
  obtain ⟨h0, css, h1, h2⟩ := h
  have hl : (bytesV s).length = s.size := by
    have := bts_len s
    simp only [bytesV, List.length_map]
    exact this
  refine appendV ok h1 rfl (by decide) (by rw [hl]; simp [EB]) ?_ (by omega) (by omega) ?_
  · intro v hv
    simp only [bytesV, List.mem_map] at hv
    obtain ⟨x, _, rfl⟩ := hv
    rfl
  intro a' c' m' ok' kp' own' in'
  have hfl : ∀ l : List UInt8, (l.map fun x => [Value.int .u8 x.toNat]).flatten = l.map fun x => Value.int .u8 x.toNat := by
    intro l
    induction l with
    | nil => rfl
    | cons x xs ih => simp [ih]
  have hrep : ∀ l : List UInt8, EB.reps m' (l.map fun x => [Value.int .u8 x.toNat]) l := by
    intro l
    induction l with
    | nil => trivial
    | cons x xs ih => exact ⟨rfl, ih⟩
  refine hK a' c' m' ok' kp' ⟨by simp [h0, bts_len], css ++ ((bts s).map fun x => [Value.int .u8 x.toNat]), ?_, Elt.reps_append (Elt.reps_keep kp' h2) (hrep _)⟩ in'
  rw [List.flatten_append, hfl]
  exact own'

def gLay (x : Int) : List UInt8 := if x = 13 then [100, 32] else if x = 0 then [48, 10] else gItoa x ++ [32]
def gPrint (f : List Int) : List UInt8 := f.flatMap gLay
theorem gItoa_len (x : Int) : (gItoa x).length ≤ 3 := by
  unfold gItoa
  split <;> split <;> simp
theorem gLay_len (x : Int) : (gLay x).length ≤ 4 := by
  unfold gLay
  split
  · simp
  · split
    · simp
    · have := gItoa_len x; simp; omega
theorem gPrint_len : ∀ f : List Int, (gPrint f).length ≤ 4 * f.length
  | [] => by simp [gPrint]
  | x :: xs => by
    have h1 := gPrint_len xs
    have h2 := gLay_len x
    simp only [gPrint, List.flatMap_cons, List.length_append, List.length_cons] at h1 ⊢
    omega
theorem gCF_good : ∀ (f : List Int) (s : Bool) (p : Int), gCF s p f = 0 → ∀ x ∈ f, x = 13 ∨ x = 0 ∨ goGoodLit x = true
  | [], _, _, _, x, hx => by simp at hx
  | y :: ys, s, p, h, x, hx => by
    simp only [gCF] at h
    simp only [List.mem_cons] at hx
    split at h
    · rename_i h13
      rcases hx with rfl | hx
      · exact .inl h13.1
      · split at h
        · cases h
        · exact gCF_good ys _ _ h x hx
    · split at h
      · rename_i h0
        rcases hx with rfl | hx
        · exact .inr (.inl h0)
        · exact gCF_good ys _ _ h x hx
      · split at h
        · cases h
        · rename_i hg
          split at h
          · cases h
          · rcases hx with rfl | hx
            · exact .inr (.inr (by simpa using hg))
            · exact gCF_good ys _ _ h x hx
theorem gCheckFlat_good {f : List Int} (h : gCheckFlat f = 0) : ∀ x ∈ f, x = 13 ∨ x = 0 ∨ goGoodLit x = true := by
  unfold gCheckFlat at h
  split at h
  · rename_i h0; exact gCF_good f _ _ h0
  · rename_i h0; exact absurd h h0
theorem mem_getD {α : Type} {l : List α} {k : Nat} (h : k < l.length) (d : α) : l.getD k d ∈ l := by simp [List.getD, h]
theorem rdOwnB {m : Mem} {a : Option Addr} {n c : Nat} {L : List UInt8} {K : ByteArray → Prop} (h : EB.own m a n c L) (hK : ∀ s, bts s = L → K s) : rdBytes m a n K := by
  have e0 := h.len
  have hs := h.sl
  obtain ⟨h0, css, h1, h2⟩ := h
  rcases hs.2 with ⟨hL, hp⟩ | ⟨b, o, ha, h3⟩
  · subst hL
    rcases hp with rfl | ⟨b, o, rfl⟩
    · exact hK _ rfl
    · exact rdBytes_of (l := []) (by simpa using e0.symm) trivial hK
  · subst ha
    refine rdBytes_of e0.symm ?_ hK
    refine row_of fun i v hi => ?_
    simp only [bytesL, List.getElem?_map] at hi
    cases hli : L[i]? with
    | none => simp [hli] at hi
    | some y =>
      simp [hli] at hi; subst hi
      obtain ⟨cs, hcs, h4⟩ := h3 i y hli
      have hcs' : cs = [.int .u8 y.toNat] := hcs
      subst hcs'
      simpa [EB] using h4.1

def PrintR (flat : List Int) (t : List UInt8) (e : Int) : Prop := if 262144 < flat.length then e = 1 ∧ t = [] else if gCheckFlat flat = 0 then e = 0 ∧ t = gPrint flat else e = 6 ∧ t = []
theorem mprint_spec {p : Nat} {fa : Option Addr} {fn fc : Nat} {flat : List Int} {K : Value → Mem → Prop} {m : Mem} (hp : PM m p) (hf : SlI m fa fn flat) (hd : flat ≠ [] → ∀ b ∈ blkOf fa, b ∉ [p])
    (hK : ∀ s e m', m'.Ok → Kp [p] m m' → PM m' p → PrintR flat (bts s) e → K (.tuple #[.string s, .int .i64 e]) m') : callOK Tryz.prog W0 81 [ptr p 0, .slice fa fn fc] K m := by
  refine callOK_ok fun ok => call81 ?_
  have e1 := hf.len
  have hpl := hp.lt ok
  obtain ⟨f, x, y, h1, h2, h3, h4⟩ := hp
  unfold s81
  refine ⟨y, Mem.cell_of h1 h4, f, h1, h2, by rw [h4]; rfl, ?_⟩
  have hk1 : Kp [p] m _ := Kp.setB (S := [p]) h1 h2 (f.upd 1 (.int .i64 (IntKind.wrap .i64 (y + 1)))) (by simp)
  have ok1 := ok.setB (f := f.upd 1 (.int .i64 (IntKind.wrap .i64 (y + 1)))) h1
  have pm1 : PM (m.setB p (f.upd 1 (.int .i64 (IntKind.wrap .i64 (y + 1))))) p := ⟨_, x, _, Mem.setB_at _ _ _, h2, by simp [Blk.upd, h3], rfl⟩
  generalize m.setB p (f.upd 1 (.int .i64 (IntKind.wrap .i64 (y + 1)))) = m1 at hk1 ok1 pm1
  have hf1 : SlI m1 fa fn flat := hf.keep hk1 hd
  with_reducible refine ifB_gt (fun hlt => ?_) (fun hlt => ?_)
  · refine hK _ _ _ ok1 hk1 pm1 ?_
    unfold PrintR
    rw [if_pos (by omega)]; exact ⟨rfl, rfl⟩
  · refine checkFlat_spec hf1 (by omega) rfl ⟨_, rfl, ?_⟩
    refine ifB_ne (fun hne => ?_) (fun he => ?_)
    · refine hK _ _ _ ok1 hk1 pm1 ?_
      unfold PrintR
      rw [if_neg (by omega), if_neg hne]; exact ⟨rfl, rfl⟩
    · have hgood := gCheckFlat_good he
      refine loop81_1 (γ := Nat) (fun k sa sn sc i m' => i = k ∧ k ≤ flat.length ∧ m'.Ok ∧ Kp [p] m m' ∧ PM m' p ∧ EB.own m' sa sn sc (gPrint (flat.take k)) ∧ InS [] m (blkOf sa)) (fun k _ _ _ _ => flat.length - k) 0
        ⟨rfl, by omega, ok1, hk1, pm1, by simpa [gPrint] using Elt.own.nil m1, InS.nil _ _⟩ ?_
      intro k sa sn sc i m2 HH
      have hi : i = k := HH.1
      have hk := HH.2.1
      have ok2 := HH.2.2.1
      have kp2 := HH.2.2.2.1
      have pm2 := HH.2.2.2.2.1
      have own2 := HH.2.2.2.2.2.1
      have in2 := HH.2.2.2.2.2.2
      clear HH
      subst hi
      have hpn : ∀ b, b ∈ blkOf sa → b ≠ p := by
        intro b hb h0
        rcases in2 b hb with h | h
        · cases h
        · omega
      have inp : InS [p] m (blkOf sa) := in2.mono (by simp)
      have hsub : flat.length ≤ 262144 := by omega
      have hlenk := gPrint_len (flat.take k)
      rw [List.length_take] at hlenk
      have en := own2.len
      unfold s81_1
      refine ifB_lt (fun hlt => ?_) (fun hlt => ?_)
      · have hkl : k < flat.length := by omega
        have htk : gPrint (flat.take (k + 1)) = gPrint (flat.take k) ++ gLay (flat.getD k 0) := by
          rw [take_succ_getD hkl 0]; simp [gPrint]
        refine (hf.keep kp2 hd).get (by omega) (by omega) fun _ _ _ => ?_
        simp only [Int.toNat_natCast]
        refine ifB_eq (fun h13 => ?_) (fun h13 => ?_)
        · refine appS ok2 own2 (by simp [ByteArray.size]; omega) ?_
          intro a3 c3 m3 ok3 kp3 own3 in3
          refine ⟨k + 1, _, _, _, _, rfl, ⟨wrapS k (by omega), by omega, ok3, kp2.step kp3 ok inp, pm2.keep kp3 (fun h0 => hpn p h0 rfl), ?_, in2.trans in3 kp2.top⟩, by omega⟩
          rw [htk, gLay, if_pos h13]; exact own3
        · refine ifB_eq (fun h0 => ?_) (fun h0 => ?_)
          · refine appS ok2 own2 (by simp [ByteArray.size]; omega) ?_
            intro a3 c3 m3 ok3 kp3 own3 in3
            refine ⟨k + 1, _, _, _, _, rfl, ⟨wrapS k (by omega), by omega, ok3, kp2.step kp3 ok inp, pm2.keep kp3 (fun h0 => hpn p h0 rfl), ?_, in2.trans in3 kp2.top⟩, by omega⟩
            rw [htk, gLay, if_neg h13, if_pos h0]; exact own3
          · have hg : goGoodLit (flat.getD k 0) = true := by
              rcases hgood _ (mem_getD hkl 0) with h | h | h
              · exact absurd h h13
              · exact absurd h h0
              · exact h
            refine itoa_spec hg ?_
            intro s m3 hs ok3 kp3
            refine ⟨_, rfl, ?_⟩
            have hsl : s.size ≤ 3 := by rw [← bts_len, hs]; exact gItoa_len _
            refine appS ok3 (own2.keep0 kp3) (by omega) ?_
            intro a4 c4 m4 ok4 kp4 own4 in4
            refine Elt.app1 (E := EB) ok4 own4 (x := 32) rfl rfl rfl (by omega) (by omega) ?_
            intro a5 c5 m5 ok5 kp5 own5 in5
            have k3 := kp2.trans kp3.of_nil
            have k4 := k3.step kp4 ok inp
            have i4 : InS [p] m (blkOf a4) := inp.trans in4 k3.top
            have i4' : InS [] m (blkOf a4) := in2.trans in4 k3.top
            have hpn4 : ∀ b, b ∈ blkOf a4 → b ≠ p := by
              intro b hb h0
              rcases i4' b hb with h | h
              · cases h
              · omega
            refine ⟨k + 1, _, _, _, _, rfl, ⟨wrapS k (by omega), by omega, ok5, k4.step kp5 ok i4, ?_, ?_, i4'.trans in5 k4.top⟩, by omega⟩
            · exact ((pm2.keep kp3 (by simp)).keep kp4 (fun h0 => hpn p h0 rfl)).keep kp5 (fun h0 => hpn4 p h0 rfl)
            · rw [htk, gLay, if_neg h13, if_neg h0, ← hs, ← List.append_assoc]; exact own5
      · rw [e81_1x0]
        have : k = flat.length := by omega
        subst this
        rw [List.take_length] at own2
        unfold s81_1x0
        refine rdOwnB own2 ?_
        intro s hs
        refine hK _ _ _ ok2 kp2 pm2 ?_
        unfold PrintR
        rw [if_neg (by omega), if_pos he]; exact ⟨rfl, hs⟩

def gFind (p : UInt8 → Bool) (t : List UInt8) (i : Nat) : Nat := i + ((t.drop i).takeWhile fun x => !p x).length
theorem gFind_hit {p : UInt8 → Bool} {t : List UInt8} {i : Nat} (h : i < t.length) (hp : p (t.getD i 0) = true) : gFind p t i = i := by
  unfold gFind
  rw [drop_cons h 0, List.takeWhile_cons, hp]
  simp
theorem gFind_step {p : UInt8 → Bool} {t : List UInt8} {i : Nat} (h : i < t.length) (hp : p (t.getD i 0) = false) : gFind p t i = gFind p t (i + 1) := by
  unfold gFind
  rw [drop_cons h 0]
  rw [List.takeWhile_cons, hp]
  simp
  omega
theorem gFind_end {p : UInt8 → Bool} {t : List UInt8} {i : Nat} (h : t.length ≤ i) : gFind p t i = i := by
  unfold gFind
  rw [List.drop_eq_nil_of_le h]
  simp
theorem gFind_le {p : UInt8 → Bool} {t : List UInt8} {i : Nat} (h : i ≤ t.length) : gFind p t i ≤ t.length := by
  unfold gFind
  have := (List.takeWhile_sublist (fun x => !p x) (l := t.drop i)).length_le
  rw [List.length_drop] at this
  omega
def sp (c : UInt8) : Bool := goSpace c.toNat
def nl (c : UInt8) : Bool := c == 10
def gPM (t : List UInt8) : Nat → Nat → List Int → List Int → Bool → Bool → Int × Int × List Int
  | 0, _, _, _, _, _ => (0, 0, [])
  | n + 1, i, flat, row, del, opn =>
    if i < t.length then
      if sp (t.getD i 0) = true then gPM t n (i + 1) flat row del opn
      else if t.getD i 0 = 99 then gPM t n (gFind nl t i) flat row del opn
      else if t.getD i 0 = 100 then
        (if opn = true then (2, i, []) else if 1 < gFind sp t i - i then (2, i + 1, []) else gPM t n (gFind sp t i) flat row true true)
      else
        let r := gNum t i (gFind sp t i)
        if r.2.2.1 ≠ 0 then (r.2.2.1, r.2.2.2, [])
        else if r.1 ≠ 0 then gPM t n (gFind sp t i) flat (row ++ [if r.2.1 = true then -r.1 else r.1]) del true
        else match gNorm row 12 1 [] with
          | none => gPM t n (gFind sp t i) flat [] false false
          | some l => gPM t n (gFind sp t i) (gRow flat del l) [] false false
    else if opn = true then (5, t.length, []) else (0, 0, flat)
def gParse (t : List UInt8) : Int × Int × List Int := if 1048576 < t.length then (1, 0, []) else gPM t (t.length + 1) 0 [] [] false false
theorem u8_eq {c d : UInt8} : (((UInt8.toNat c : Nat) : Int) = ((UInt8.toNat d : Nat) : Int)) ↔ c = d := by
  rw [← UInt8.toNat_inj]
  omega

def Blk3 (m : Mem) (b : Nat) : Prop := ∃ f, m.blk b = some f ∧ f.wr = true ∧ (∀ i, i < 3 → (f.cell i).isSome = true)
theorem Blk3.keep {S : List Nat} {m m' : Mem} {b : Nat} (h : Blk3 m b) (hk : Kp S m m') (hb : b ∉ S) : Blk3 m' b := by
  obtain ⟨f, h1, h2⟩ := h
  exact ⟨f, hk.keep b f hb h1, h2⟩

theorem blk3_put {m : Mem} {b : Nat} {e p : Int} {a : Option Addr} {n c : Nat} {K : Mem → Prop} (ok : m.Ok) (h : Blk3 m b)
    (hK : ∀ m', m'.Ok → Kp [b] m m' → m'.cell b 0 = some (.int .i64 e) → m'.cell b 1 = some (.int .i64 p) → m'.cell b 2 = some (.slice a n c) → K m') :
    stL m b 0 [.int .i64 e, .int .i64 p, .slice a n c] K := by
  obtain ⟨f, h1, h2, h3⟩ := h
  refine stL_of _ 0 _ f _ h1 h2 ?_ ?_ ?_ ?_
  · intro i hi
    rw [Nat.zero_add]
    exact h3 i (by simpa using hi)
  · intro v hv
    simp at hv
    rcases hv with rfl | rfl | rfl <;> rfl
  · exact hK _ (ok.setB h1) (Kp.setB h1 h2 _ (by simp)) (Mem.cell_of (Mem.setB_at _ _ _) rfl) (Mem.cell_of (Mem.setB_at _ _ _) rfl) (Mem.cell_of (Mem.setB_at _ _ _) rfl)
  · intro h0; cases h0
theorem gNorm_len (row : List Int) : ∀ (n : Nat) (v : Int) (out l : List Int), gNorm row n v out = some l → l.length ≤ out.length + n
  | 0, v, out, l, h => by simp [gNorm] at h; subst h; simp
  | n + 1, v, out, l, h => by
    simp only [gNorm] at h
    split at h
    · cases h
    · rename_i hn
      have := gNorm_len row n _ _ l h
      simp only [List.length_append] at this
      by_cases h1 : row.any (· == v) = true
      · by_cases h2 : row.any (· == -v) = true
        · exact absurd ⟨h1, h2⟩ hn
        · rw [if_pos h1, if_neg h2] at this
          simp at this
          omega
      · rw [if_neg h1] at this
        split at this <;> simp at this <;> omega

structure MpI (m0 : Mem) (p b : Nat) (m : Mem) (fa : Option Addr) (fn fc : Nat) (ra : Option Addr) (rn rc : Nat) (flat row : List Int) : Prop where
  ok : m.Ok
  kp : Kp [p] m0 m
  pm : PM m p
  bk : Blk3 m b
  of : OwnI m fa fn fc flat
  or : OwnI m ra rn rc row
  nb : m0.top ≤ b
  nf : InS [] m0 (blkOf fa)
  nr : InS [] m0 (blkOf ra)
  d1 : b ∉ blkOf fa ∧ b ∉ blkOf ra
  d2 : ∀ x ∈ blkOf fa, x ∉ blkOf ra
theorem MpI.step {m0 : Mem} {p b : Nat} {m m' : Mem} {fa ra : Option Addr} {fn fc rn rc : Nat} {flat row : List Int} (h : MpI m0 p b m fa fn fc ra rn rc flat row) (ok0 : m0.Ok) (ok' : m'.Ok) (k : Kp [] m m') : MpI m0 p b m' fa fn fc ra rn rc flat row :=
  ⟨ok', h.kp.trans k.of_nil, h.pm.keep k (by simp), h.bk.keep k (by simp), h.of.keep0 k, h.or.keep0 k, h.nb, h.nf, h.nr, h.d1, h.d2⟩

theorem stL_mono {b : Nat} : ∀ {vs : List Value} {m : Mem} {o : Nat} {K K' : Mem → Prop}, stL m b o vs K → (∀ m', K m' → K' m') → stL m b o vs K'
  | [], m, o, K, K', h, hk => hk m h
  | v :: vs, m, o, K, K', h, hk => by
    simp only [stL] at h ⊢
    cases hv : oneC v with
    | true =>
      rw [hv] at h
      obtain ⟨f, h1, h2, h3, h4⟩ := h
      exact ⟨f, h1, h2, h3, stL_mono h4 hk⟩
    | false => rw [hv] at h; exact h
theorem gNum_range (t : List UInt8) (a b : Nat) : LitB (gNum t a b).1 := by
  have h : ∀ i ng, LitB (gNumA t a b i ng).1 := by
    intro i ng
    unfold gNumA
    split
    · (dsimp only; exact ⟨by decide, by decide⟩)
    · rename_i hno
      split
      · (dsimp only; exact ⟨by decide, by decide⟩)
      · split
        · (dsimp only; exact ⟨by decide, by decide⟩)
        · split
          · (dsimp only; exact ⟨by decide, by decide⟩)
          · rename_i h12
            have hd := gBad_none hno
            have : ∀ (n k : Nat) (v : Int), (∀ j, k ≤ j → j < k + n → isDig (t.getD j 0) = true) → 0 ≤ v → 0 ≤ gV t n k v := by
              intro n
              induction n with
              | zero => intro k v _ hv; exact hv
              | succ n ih =>
                intro k v hk hv
                simp only [gV]
                refine ih _ _ (fun j h1 h2 => hk j (by omega) (by omega)) ?_
                have := hk k (by omega) (by omega)
                simp only [isDig, decide_eq_true_eq] at this
                unfold satur
                split <;> omega
            have := this _ _ 0 hd (by omega)
            exact ⟨by dsimp only; omega, by dsimp only; omega⟩
  unfold gNum
  split
  · exact h _ _
  · exact h _ _
theorem s80_3_exit {C : CallT} {s : ByteArray} {t4 : Nat} {fa ra : Option Addr} {fn fc rn rc : Nat} {del opn : Bool} {i9 : Int} {q : Nat} {Kt : Exit → Fr → Mem → Prop} {m : Mem} {t : List UInt8} (ht : bts s = t) (h : ¬ (q < t.length ∧ sp (t.getD q 0) = false))
    (hK : Kt (.exit 4) [(1, (.string s)), (4, (ptr t4 0)), (5, (.slice fa fn fc)), (6, (.slice ra rn rc)), (7, (.bool del)), (8, (.bool opn)), (9, (.int .i64 i9)), (10, (.int .i64 q))] m) : s80_3 C s t4 fa fn fc ra rn rc del opn i9 q Kt m := by
  have htl : t.length = s.size := by rw [← ht]; exact bts_len s
  unfold s80_3
  refine ifB_lt (fun hlt2 => ckS_of (by omega) (by omega) ?_) (fun hlt2 => hK)
  simp only [Int.toNat_natCast, ht]
  exact ifB_not (fun h10 => absurd ⟨by omega, h10⟩ h) (fun h10 => hK)
theorem mparse_spec {p : Nat} {s : ByteArray} {r : Int × Int × List Int} {K : Value → Mem → Prop} {m : Mem} (hp : PM m p) (hr : gParse (bts s) = r)
    (hK : ∀ a n c m', m'.Ok → Kp [p] m m' → PM m' p → FzI m' a n r.2.2 → K (.agg #[.int .i64 r.1, .int .i64 r.2.1, .slice a n c]) m') : callOK Tryz.prog W0 80 [ptr p 0, .string s] K m := by
  refine callOK_ice fun ok => call80 ?_
  have hpl := hp.lt ok
  obtain ⟨t, ht⟩ : ∃ t, bts s = t := ⟨_, rfl⟩
  have htl : t.length = s.size := by rw [← ht]; exact bts_len s
  rw [ht] at hr
  obtain ⟨f, x, y, h1, h2, h3, h4⟩ := hp
  unfold s80
  intro b hb
  have hz : zeroBlk Tryz.prog 73 = Blk.ofList [.int .i64 0, .int .i64 0, .slice none 0 0] := by kernel_rfl
  rw [hz]
  have hk0 := Kp.new (S := [p]) ok hb (Blk.ofList [.int .i64 0, .int .i64 0, .slice none 0 0])
  have hbp : p ≠ b := by omega
  have h1' : (m.new b (Blk.ofList [.int .i64 0, .int .i64 0, .slice none 0 0])).blk p = some f := by rw [Mem.new_blk, if_neg hbp]; exact h1
  refine ⟨x, Mem.cell_of h1' h3, f, h1', h2, by rw [h3]; rfl, ?_⟩
  have hk1 : Kp [p] _ _ := Kp.setB (S := [p]) h1' h2 (f.upd 0 (.int .i64 (IntKind.wrap .i64 (x + 1)))) (by simp)
  have ok1 := (ok.new hb (Blk.ofList [.int .i64 0, .int .i64 0, .slice none 0 0])).setB (f := f.upd 0 (.int .i64 (IntKind.wrap .i64 (x + 1)))) h1'
  have pm1 : PM ((m.new b (Blk.ofList [.int .i64 0, .int .i64 0, .slice none 0 0])).setB p (f.upd 0 (.int .i64 (IntKind.wrap .i64 (x + 1))))) p := ⟨_, _, y, Mem.setB_at _ _ _, h2, rfl, by simp [Blk.upd, h4]⟩
  have bk1 : Blk3 ((m.new b (Blk.ofList [.int .i64 0, .int .i64 0, .slice none 0 0])).setB p (f.upd 0 (.int .i64 (IntKind.wrap .i64 (x + 1))))) b := by
    refine ⟨Blk.ofList [.int .i64 0, .int .i64 0, .slice none 0 0], ?_, rfl, ?_⟩
    · rw [Mem.setB_blk, if_neg (by omega), Mem.new_at]
    · intro i hi
      simp [Blk.ofList, hi]
  have kp1 := hk0.trans hk1
  generalize (m.new b (Blk.ofList [.int .i64 0, .int .i64 0, .slice none 0 0])).setB p (f.upd 0 (.int .i64 (IntKind.wrap .i64 (x + 1)))) = m1 at kp1 ok1 pm1 bk1
  clear hk0 hk1 h1' h1 h2 h3 h4 hz
  have npb : p ∉ [b] := by simpa using hbp

  have bad : ∀ (e q : Int) (m2 : Mem), r = (e, q, []) → m2.Ok → Kp [p] m m2 → PM m2 p → Blk3 m2 b → stL m2 b 0 [.int .i64 e, .int .i64 q, .slice none 0 0] fun m3 =>
      ldInt .i64 m3 b 0 fun x => ldInt .i64 m3 b 1 fun y => ldSl m3 b 2 fun a n c => m3.Ok → ∃ m4, m4.Le m3 ∧ m4.top = m3.top ∧ (m4.Ok → K (.agg #[.int .i64 x, .int .i64 y, .slice a n c]) m4) := by
    intro e q m2 hre ok2 kp2 pm2 bk2
    refine blk3_put ok2 bk2 ?_
    intro m3 ok3 kp3 c0 c1 c2
    refine ⟨_, c0, _, c1, _, _, _, c2, fun _ => ⟨m3, Mem.iceL_le ok3 [] |> fun h => ?_, rfl, fun _ => ?_⟩⟩
    · refine ⟨Nat.le_refl _, fun c f hc => ⟨ok3 c f hc, f, hc, id, fun _ _ h => h⟩⟩
    · subst hre
      exact hK _ _ _ _ ok3 (kp2.step kp3 ok (fun b' hb' => .inr (by simp at hb'; omega))) (pm2.keep kp3 npb) (Elt.fz.nil _)
  with_reducible refine ifB_gt (fun hlt => ?_) (fun hlt => ?_)
  · have : gParse t = (1, 0, []) := by unfold gParse; rw [if_pos (by omega)]
    rw [this] at hr
    exact bad 1 0 m1 hr.symm ok1 kp1 pm1 bk1
  · have hgp : gParse t = gPM t (t.length + 1) 0 [] [] false false := by unfold gParse; rw [if_neg (by omega)]
    rw [hgp] at hr
    have hsz : t.length ≤ 1048576 := by omega
    refine loop80_1 (γ := Nat × Nat × List Int × List Int) (fun g fa fn fc ra rn rc del opn i m' => i = g.2.1 ∧ g.2.1 ≤ t.length ∧ t.length + 1 ≤ g.1 + g.2.1 ∧ MpI m p b m' fa fn fc ra rn rc g.2.2.1 g.2.2.2 ∧ g.2.2.1.length + g.2.2.2.length ≤ 20 * g.2.1 ∧ gPM t g.1 g.2.1 g.2.2.1 g.2.2.2 del opn = r)
      (fun g _ _ _ _ _ _ _ _ _ => g.1) (t.length + 1, 0, [], [])
      ⟨rfl, by dsimp only; omega, by dsimp only; omega, ⟨ok1, kp1, pm1, bk1, Elt.own.nil _, Elt.own.nil _, hb, InS.nil _ _, InS.nil _ _, by simp [blkOf], by simp [blkOf]⟩, by simp, hr⟩ ?_
    intro g fa fn fc ra rn rc del opn i m2 HH
    obtain ⟨n, j, flat, row⟩ := g
    have hi : i = j := HH.1
    have hj := HH.2.1
    have hn := HH.2.2.1
    have inv := HH.2.2.2.1
    have hlen := HH.2.2.2.2.1
    have hrr := HH.2.2.2.2.2
    clear HH
    dsimp only at hi hj hn inv hlen hrr ⊢
    subst hi
    have ef := inv.of.len
    have er := inv.or.len
    unfold s80_1
    refine ifB_lt (fun hlt => ?_) (fun hlt => ?_)
    · have hjl : j < t.length := by omega
      obtain ⟨n, rfl⟩ : ∃ n', n = n' + 1 := ⟨n - 1, by omega⟩
      simp only [gPM] at hrr
      rw [if_pos hjl] at hrr
      refine ckS_of (by omega) (by omega) ?_
      simp only [Int.toNat_natCast, ht]
      refine ifB_of (fun hsp => ?_) (fun hsp => ?_)
      · rw [if_pos (show sp (t.getD j 0) = true from hsp)] at hrr
        exact ⟨(n, j + 1, flat, row), _, _, _, _, _, _, _, _, _, rfl, ⟨wrapS j (by omega), by dsimp only; omega, by dsimp only; omega, inv, by dsimp only; omega, hrr⟩, by dsimp only; omega⟩
      · have hsp' : sp (t.getD j 0) = false := hsp
        rw [if_neg (by rw [hsp']; decide)] at hrr
        refine ckS_of (by omega) (by omega) ?_
        simp only [Int.toNat_natCast, ht]
        refine ifB_eq (fun h99 => ?_) (fun h99 => ?_)
        · have h99' : t.getD j 0 = 99 := u8_eq.1 h99
          rw [if_pos h99'] at hrr
          refine loop80_2 (γ := Nat) (fun q i9 m' => m' = m2 ∧ i9 = q ∧ j ≤ q ∧ q ≤ t.length ∧ gFind nl t q = gFind nl t j) (fun q _ => t.length - q) j ⟨rfl, rfl, by omega, by omega, rfl⟩ ?_
          rintro q i9 m' ⟨rfl, rfl, hjq, hqt, hfd⟩
          have hfin : q = gFind nl t j → j < q := by
            intro hq
            have h2 : gFind nl t j = gFind nl t (j + 1) := gFind_step hjl (by rw [h99']; rfl)
            have h3 : j + 1 ≤ gFind nl t (j + 1) := by unfold gFind; omega
            omega
          unfold s80_2
          refine ifB_lt (fun hlt2 => ?_) (fun hlt2 => ?_)
          · have hql : q < t.length := by omega
            refine ckS_of (by omega) (by omega) ?_
            simp only [Int.toNat_natCast, ht]
            refine ifB_ne (fun h10 => ?_) (fun h10 => ?_)
            · have : nl (t.getD q 0) = false := by
                simp only [nl, beq_eq_false_iff_ne]
                intro h0; exact h10 (by rw [h0]; rfl)
              exact ⟨q + 1, _, rfl, ⟨rfl, wrapS q (by omega), by omega, by omega, by rw [← gFind_step hql this]; exact hfd⟩, by omega⟩
            · rw [e80_2x2]
              have h10' : t.getD q 0 = 10 := u8_eq.1 h10
              have hq : q = gFind nl t j := by rw [← hfd, gFind_hit hql (by rw [h10']; rfl)]
              have hjq2 := hfin hq
              exact ⟨(n, q, flat, row), _, _, _, _, _, _, _, _, _, rfl, ⟨rfl, by dsimp only; omega, by dsimp only; omega, inv, by dsimp only; omega, by dsimp only; rw [hq]; exact hrr⟩, by dsimp only; omega⟩
          · rw [e80_2x2]
            have hq : q = gFind nl t j := by rw [← hfd, gFind_end (by omega)]
            have hjq2 := hfin hq
            exact ⟨(n, q, flat, row), _, _, _, _, _, _, _, _, _, rfl, ⟨rfl, by dsimp only; omega, by dsimp only; omega, inv, by dsimp only; omega, by dsimp only; rw [hq]; exact hrr⟩, by dsimp only; omega⟩
        · have h99' : ¬ t.getD j 0 = 99 := fun h0 => h99 (by rw [h0]; rfl)
          rw [if_neg h99'] at hrr
          refine loop80_3 (γ := Nat) (fun q i9 m' => m' = m2 ∧ i9 = q ∧ j < q + 1 ∧ q ≤ t.length ∧ (j < q ∨ q = j) ∧ gFind sp t q = gFind sp t j) (fun q _ => t.length - q) j ⟨rfl, rfl, by omega, by omega, by omega, rfl⟩ ?_
          rintro q i9 m' ⟨rfl, rfl, hjq, hqt, hor, hfd⟩
          have hnext : gFind sp t j = gFind sp t (j + 1) := gFind_step hjl hsp'
          have hge : j + 1 ≤ gFind sp t (j + 1) := by unfold gFind; omega
          have hle : gFind sp t j ≤ t.length := gFind_le hj

          by_cases hcont : q < t.length ∧ sp (t.getD q 0) = false
          · unfold s80_3
            have hc2 : goSpace ((UInt8.toNat (t.getD q 0) : Nat) : Int) = false := hcont.2
            have hc1 := hcont.1
            refine ifB_lt (fun hlt2 => ckS_of (by omega) (by omega) ?_) (fun hlt2 => ?_)
            · simp only [Int.toNat_natCast, ht]
              refine ifB_not (fun h10 => ?_) (fun h10 => ?_)
              · exact ⟨q + 1, _, rfl, ⟨rfl, wrapS q (by omega), by omega, by omega, by omega, by rw [← gFind_step hcont.1 h10]; exact hfd⟩, by omega⟩
              · rw [hc2] at h10; cases h10
            · have hF : False := by omega
              cases hF
          · have hq : q = gFind sp t j := by
              rcases Nat.lt_or_ge q t.length with h | h
              · rw [← hfd, gFind_hit h (by simpa using fun h0 => hcont ⟨h, h0⟩)]
              · rw [← hfd, gFind_end h]
            refine s80_3_exit ht hcont ?_
            rw [e80_3x4]
            unfold s80_3x4
            rw [← hq] at hrr hnext
            have hjq2 : j < q := by omega
            refine ckS_of (by omega) (by omega) ?_
            simp only [Int.toNat_natCast, ht]
            refine ifB_eq (fun h100 => ?_) (fun h100 => ?_)
            · rw [if_pos (u8_eq.1 h100)] at hrr
              refine ifB_of (fun ho => ?_) (fun ho => ?_)
              · rw [if_pos ho] at hrr
                have hx := bad 2 j m' hrr.symm inv.ok inv.kp inv.pm inv.bk
                refine stL_mono hx ?_
                intro m3 h3
                rw [e80_1r]
                exact h3
              · rw [if_neg (by rw [ho]; decide)] at hrr
                rw [wrap_i64 (n := (q : Int) - j) (by omega) (by omega), wrapS j (by omega)]
                refine ifB_gt (fun h1 => ?_) (fun h1 => ?_)
                · rw [if_pos (by omega)] at hrr
                  have hx := bad 2 ((j + 1 : Nat) : Int) m' hrr.symm inv.ok inv.kp inv.pm inv.bk
                  refine stL_mono hx ?_
                  intro m3 h3
                  rw [e80_1r]
                  exact h3
                · rw [if_neg (by omega)] at hrr
                  exact ⟨(n, q, flat, row), _, _, _, _, _, _, _, _, _, rfl, ⟨rfl, by dsimp only; omega, by dsimp only; omega, inv, by dsimp only; omega, hrr⟩, by dsimp only; omega⟩
            · rw [if_neg (fun h0 => h100 (by rw [h0]; rfl))] at hrr
              refine number_spec (by omega) (by omega) (by omega) (by rw [ht]) ⟨_, _, _, _, rfl, ?_⟩
              have hrng := gNum_range t j q
              obtain ⟨w, hw⟩ : ∃ w, gNum t j q = w := ⟨_, rfl⟩
              rw [hw] at hrr hrng ⊢
              refine ifB_ne (fun hne => ?_) (fun he => ?_)
              · rw [if_pos hne] at hrr
                have hx := bad w.2.2.1 w.2.2.2 m' hrr.symm inv.ok inv.kp inv.pm inv.bk
                refine stL_mono hx ?_
                intro m3 h3
                rw [e80_1r]
                exact h3
              · rw [if_neg (by simpa using he)] at hrr
                refine ifB_ne (fun hv => ?_) (fun hv => ?_)
                · rw [if_pos hv] at hrr
                  have app : ∀ (v : Int) (K2 : Option Addr → Nat → Mem → Prop), (∀ a' c' m3, MpI m p b m3 fa fn fc a' (rn + 1) c' flat (row ++ [v]) → K2 a' c' m3) →
                      allocB m' (Blk.ofList [.int .i64 v]) fun b m5 => rdRow m5 (some ⟨b, 0, none⟩) (1 * 1) fun r => appendC m5 1 8 [.int .i64 0] ra rn rc 1 r fun a' c' m' => K2 a' c' m' := by
                    intro v K2 hK2
                    refine Elt.app1 (E := EI) inv.ok inv.or (x := v) rfl rfl rfl (by omega) (by omega) ?_
                    intro a3 c3 m3 ok3 kp3 own3 in3
                    have lf := inv.of.lt inv.ok
                    have lr := inv.or.lt inv.ok
                    have lb : b < m'.top := by obtain ⟨f, h1, _⟩ := inv.bk; exact inv.ok b f h1
                    have tp := inv.kp.top
                    have npr : p ∉ blkOf ra := fun h0 => by
                      rcases inv.nr p h0 with h | h
                      · cases h
                      · omega
                    refine hK2 a3 c3 m3 ⟨ok3, inv.kp.step kp3 ok (inv.nr.mono (by simp)), inv.pm.keep kp3 npr, inv.bk.keep kp3 inv.d1.2, inv.of.keep kp3 inv.d2, own3, inv.nb, inv.nf, inv.nr.trans in3 tp, ⟨inv.d1.1, ?_⟩, ?_⟩
                    · intro h0
                      rcases in3 b h0 with h | h
                      · exact inv.d1.2 h
                      · omega
                    · intro x hx h0
                      rcases in3 x h0 with h | h
                      · exact inv.d2 x hx h
                      · have := lf x hx; omega
                  refine ifB_of (fun hng => ?_) (fun hng => ?_)
                  · rw [hng, if_pos rfl] at hrr
                    rw [wrap_neg hrng]
                    refine app (-w.1) _ ?_
                    intro a3 c3 m3 inv3
                    exact ⟨(n, q, flat, row ++ [-w.1]), _, _, _, _, _, _, _, _, _, rfl, ⟨rfl, by dsimp only; omega, by dsimp only; omega, inv3, by dsimp only; simp only [List.length_append, List.length_cons, List.length_nil]; omega, hrr⟩, by dsimp only; omega⟩
                  · rw [hng, if_neg (by decide)] at hrr
                    refine app w.1 _ ?_
                    intro a3 c3 m3 inv3
                    exact ⟨(n, q, flat, row ++ [w.1]), _, _, _, _, _, _, _, _, _, rfl, ⟨rfl, by dsimp only; omega, by dsimp only; omega, inv3, by dsimp only; simp only [List.length_append, List.length_cons, List.length_nil]; omega, hrr⟩, by dsimp only; omega⟩
                · rw [if_neg (by simpa using hv)] at hrr
                  refine norm_spec inv.or.sl (by omega) rfl ?_ ?_
                  · intro m3 hno ok3 kp3
                    rw [hno] at hrr
                    dsimp only at hrr
                    refine ⟨_, _, _, _, rfl, ?_⟩
                    refine ifB_of (fun h0 => by cases h0) (fun _ => ?_)
                    have inv3 := inv.step ok ok3 kp3
                    exact ⟨(n, q, flat, []), _, _, _, _, _, _, _, _, _, rfl, ⟨rfl, by dsimp only; omega, by dsimp only; omega, ⟨inv3.ok, inv3.kp, inv3.pm, inv3.bk, inv3.of, Elt.own.nil _, inv3.nb, inv3.nf, InS.nil _ _, ⟨inv3.d1.1, by simp [blkOf]⟩, by simp [blkOf]⟩, by dsimp only; simp only [List.length_nil]; omega, hrr⟩, by dsimp only; omega⟩
                  · intro out a3 n3 c3 m3 hso ok3 kp3 own3 in3 hol
                    rw [hso] at hrr
                    dsimp only at hrr
                    refine ⟨_, _, _, _, rfl, ?_⟩
                    refine ifB_of (fun _ => ?_) (fun h0 => by cases h0)
                    have inv3 := inv.step ok ok3 kp3
                    have lf := inv.of.lt inv.ok
                    have lb : b < m'.top := by obtain ⟨f, h1, _⟩ := inv.bk; exact inv.ok b f h1
                    have tp := inv.kp.top
                    have tp3 := kp3.top
                    have dis : ∀ x, x ∈ blkOf a3 → x ∉ blkOf fa := by
                      intro x hx h0
                      have := lf x h0
                      rcases in3 x hx with h | h
                      · cases h
                      · omega
                    have hol2 := gNorm_len row 12 1 [] out hso
                    simp only [List.length_nil] at hol2
                    have npf : ∀ {a' : Option Addr}, InS [] m (blkOf a') → p ∉ blkOf a' := fun h h0 => by
                      rcases h p h0 with h | h
                      · cases h
                      · omega
                    have nbf : ∀ {a' : Option Addr}, InS (blkOf fa) m3 (blkOf a') → b ∉ blkOf a' := fun h h0 => by
                      rcases h b h0 with h | h
                      · exact inv.d1.1 h
                      · omega

                    have done : ∀ (a' : Option Addr) (n' c' : Nat) (m4 : Mem) (F : List Int), m4.Ok → Kp (blkOf fa) m3 m4 → OwnI m4 a' n' c' F → InS (blkOf fa) m3 (blkOf a') → MpI m p b m4 a' n' c' none 0 0 F [] := by
                      intro a' n' c' m4 F ok4 kp4 own4 in4
                      exact ⟨ok4, inv3.kp.step kp4 ok (inv.nf.mono (by simp)), inv3.pm.keep kp4 (npf inv.nf), inv3.bk.keep kp4 inv.d1.1, own4, Elt.own.nil _, inv.nb, inv.nf.trans in4 inv3.kp.top, InS.nil _ _, ⟨nbf in4, by simp [blkOf]⟩, by simp [blkOf]⟩
                    refine ifB_of (fun hdl => ?_) (fun hdl => ?_)
                    · refine Elt.app1 (E := EI) ok3 inv3.of (x := 13) rfl rfl rfl (by omega) (by omega) ?_
                      intro a4 c4 m4 ok4 kp4 own4 in4
                      have own3' : OwnI m4 a3 n3 c3 out := own3.keep kp4 dis
                      refine Elt.appL (E := EI) ok4 own4 own3'.sl rfl rfl rfl (by omega) (by have := own3.len; omega) ?_
                      intro a5 c5 m5 ok5 kp5 own5 in5
                      refine Elt.app1 (E := EI) ok5 own5 (x := 0) rfl rfl rfl (by omega) (by have := own3.len; omega) ?_
                      intro a6 c6 m6 ok6 kp6 own6 in6
                      have k5 := kp4.step kp5 ok3 in4
                      have i5 := in4.trans in5 kp4.top
                      have hg : gRow flat del out = flat ++ [13] ++ out ++ [0] := by rw [gRow, if_pos hdl]
                      rw [hg] at hrr
                      exact ⟨(n, q, _, []), _, _, _, _, _, _, _, _, _, rfl, ⟨rfl, by dsimp only; omega, by dsimp only; omega, done _ _ _ _ _ ok6 (k5.step kp6 ok3 i5) own6 (i5.trans in6 k5.top), by dsimp only; simp only [List.length_append, List.length_cons, List.length_nil]; omega, hrr⟩, by dsimp only; omega⟩
                    · refine Elt.appL (E := EI) ok3 inv3.of own3.sl rfl rfl rfl (by omega) (by have := own3.len; omega) ?_
                      intro a5 c5 m5 ok5 kp5 own5 in5
                      refine Elt.app1 (E := EI) ok5 own5 (x := 0) rfl rfl rfl (by omega) (by have := own3.len; omega) ?_
                      intro a6 c6 m6 ok6 kp6 own6 in6
                      have hg : gRow flat del out = flat ++ out ++ [0] := by rw [gRow, if_neg (by rw [hdl]; decide)]
                      rw [hg] at hrr
                      exact ⟨(n, q, _, []), _, _, _, _, _, _, _, _, _, rfl, ⟨rfl, by dsimp only; omega, by dsimp only; omega, done _ _ _ _ _ ok6 (kp5.step kp6 ok3 in5) own6 (in5.trans in6 kp5.top), by dsimp only; simp only [List.length_append, List.length_cons, List.length_nil]; omega, hrr⟩, by dsimp only; omega⟩
    · rw [e80_1x0]
      have hjt : j = t.length := by omega
      obtain ⟨n, rfl⟩ : ∃ n', n = n' + 1 := ⟨n - 1, by omega⟩
      simp only [gPM] at hrr
      rw [if_neg (by omega)] at hrr
      unfold s80_1x0
      refine ifB_of (fun ho => ?_) (fun ho => ?_)
      · rw [if_pos ho] at hrr
        have hx := bad 5 (s.size : Int) m2 (by rw [← hrr, htl]) inv.ok inv.kp inv.pm inv.bk
        exact hx
      · rw [if_neg (by rw [ho]; decide)] at hrr
        refine copyInts_spec inv.of.sl (by omega) ?_
        intro a3 m3 ok3 kp3 own3 in3 hnil
        refine ⟨_, _, _, rfl, ?_⟩
        have inv3 := inv.step ok ok3 kp3
        refine blk3_put ok3 inv3.bk ?_
        intro m4 ok4 kp4 c0 c1 c2
        refine ⟨_, c0, _, c1, _, _, _, c2, fun _ => ?_⟩
        have lb : b < m2.top := by obtain ⟨f, h1, _⟩ := inv.bk; exact inv.ok b f h1
        have nb3 : ∀ x, x ∈ blkOf a3 → x ∉ [b] := by
          intro x hx h0
          simp at h0
          subst h0
          rcases in3 x hx with h | h
          · cases h
          · omega
        have own4 : OwnI m4 a3 fn fn flat := own3.keep kp4 nb3
        have k4 : Kp [p] m m4 := inv3.kp.step kp4 ok (fun b' hb' => .inr (by simp at hb'; omega))
        have pm4 := inv3.pm.keep kp4 npb
        subst hrr
        rcases own4.ice with ⟨b3, ha3, hfz⟩ | ⟨ha, hfl, hn0⟩
        · have hb3 : m2.top ≤ b3 := by
            rcases in3 b3 (by simp [ha3, blkOf]) with h | h
            · cases h
            · exact h
          have tp := inv.kp.top
          refine ⟨m4.ice b3, Mem.ice_le ok4 b3, rfl, fun ok5 => ?_⟩
          have k45 : Kp [b3] m4 (m4.ice b3) := Kp.ice1 b3
          exact hK _ _ _ _ ok5 (k4.step k45 ok (fun b' hb' => .inr (by simp at hb'; omega))) (pm4.keep k45 (by simp; omega)) hfz
        · refine ⟨m4, ⟨Nat.le_refl _, fun c f hc => ⟨ok4 c f hc, f, hc, id, fun _ _ h => h⟩⟩, rfl, fun ok5 => ?_⟩
          subst hfl
          refine hK _ _ _ _ ok5 k4 pm4 ?_
          rw [hn0, ha]
          exact Elt.fz.nil _
end Go.Proofs.Qxb6500974aGreat
