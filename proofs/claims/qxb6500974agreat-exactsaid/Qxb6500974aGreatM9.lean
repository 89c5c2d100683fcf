import Derived.Test.Qxb6500974aGreatM8
set_option linter.all false
set_option linter.unusedSimpArgs false
set_option linter.unusedVariables false
namespace Go.Proofs.Qxb6500974aGreat
open Go.Eng
variable {W0 : World}

theorem gNorm_mem (row : List Int) : ∀ (n : Nat) (v : Int) (out l : List Int), gNorm row n v out = some l → 1 ≤ v → v + n ≤ 13 → (∀ x ∈ out, -12 ≤ x ∧ x ≤ 12) → ∀ x ∈ l, -12 ≤ x ∧ x ≤ 12
  | 0, v, out, l, h, _, _, ho => by simp [gNorm] at h; subst h; exact ho
  | n + 1, v, out, l, h, h1, h2, ho => by
    simp only [gNorm] at h
    split at h
    · cases h
    · refine gNorm_mem row n _ _ l h (by omega) (by omega) ?_
      intro x hx
      rcases List.mem_append.1 hx with hx | hx
      · split at hx
        · rcases List.mem_append.1 hx with hx | hx
          · exact ho x hx
          · simp at hx; omega
        · exact ho x hx
      · split at hx
        · simp at hx; omega
        · simp at hx
theorem gRow_mem {flat l : List Int} {del : Bool} (h1 : ∀ x ∈ flat, -12 ≤ x ∧ x ≤ 13) (h2 : ∀ x ∈ l, -12 ≤ x ∧ x ≤ 12) : ∀ x ∈ gRow flat del l, -12 ≤ x ∧ x ≤ 13 := by
  intro x hx
  unfold gRow at hx
  cases del
  · simp at hx
    rcases hx with hx | hx | hx
    · exact h1 x hx
    · have := h2 x hx; omega
    · omega
  · simp at hx
    rcases hx with hx | hx | hx | hx
    · exact h1 x hx
    · omega
    · have := h2 x hx; omega
    · omega
theorem gPM_good (t : List UInt8) : ∀ (n i : Nat) (flat row : List Int) (del opn : Bool), i ≤ t.length → flat.length + row.length ≤ 20 * i → (∀ x ∈ flat, -12 ≤ x ∧ x ≤ 13) →
    (∀ x ∈ (gPM t n i flat row del opn).2.2, -12 ≤ x ∧ x ≤ 13) ∧ (gPM t n i flat row del opn).2.2.length ≤ 20 * t.length
  | 0, i, flat, row, del, opn, _, _, _ => by simp [gPM]
  | n + 1, i, flat, row, del, opn, hi, hl, hf => by
    simp only [gPM]
    split
    · rename_i hlt
      split
      · exact gPM_good t n _ _ _ _ _ (by omega) (by omega) hf
      · rename_i hsp
        have hsp' : sp (t.getD i 0) = false := by simpa using hsp
        have h1 : gFind sp t i = gFind sp t (i + 1) := gFind_step hlt hsp'
        have h2 : i + 1 ≤ gFind sp t (i + 1) := by unfold gFind; omega
        have h3 : gFind sp t i ≤ t.length := gFind_le hi
        split
        · have h4 : i ≤ gFind nl t i := by unfold gFind; omega
          exact gPM_good t n _ _ _ _ _ (gFind_le hi) (by omega) hf
        · split
          · split
            · simp
            · split
              · simp
              · exact gPM_good t n _ _ _ _ _ h3 (by omega) hf
          · split
            · simp
            · split
              · refine gPM_good t n _ _ _ _ _ h3 ?_ hf
                simp only [List.length_append, List.length_cons, List.length_nil]; omega
              · split
                · refine gPM_good t n _ _ _ _ _ h3 ?_ hf
                  simp only [List.length_nil]; omega
                · rename_i l hl2
                  have h5 := gNorm_len row 12 1 [] l hl2
                  have h6 := gNorm_mem row 12 1 [] l hl2 (by omega) (by omega) (by simp)
                  have h7 := gRow_len flat del l
                  simp only [List.length_nil] at h5
                  refine gPM_good t n _ _ _ _ _ h3 ?_ (gRow_mem hf h6)
                  simp only [List.length_nil]; omega
    · split
      · simp
      · exact ⟨hf, by dsimp only; omega⟩
theorem gParse_good (t : List UInt8) : (∀ x ∈ (gParse t).2.2, -12 ≤ x ∧ x ≤ 13) ∧ (gParse t).2.2.length ≤ 20971520 := by
  unfold gParse
  split
  · simp
  · have := gPM_good t (t.length + 1) 0 [] [] false false (by omega) (by simp) (by simp)
    exact ⟨this.1, by omega⟩
theorem gRowsA_good : ∀ (f : List Int) (d : Bool) (l : List Int) (N : Nat), (∀ x ∈ f, -12 ≤ x ∧ x ≤ 13) → (∀ x ∈ l, -12 ≤ x ∧ x ≤ 13) → l.length + f.length ≤ N → ∀ r ∈ gRowsA d l f, (∀ x ∈ r.2, -12 ≤ x ∧ x ≤ 13) ∧ r.2.length ≤ N
  | [], d, l, N, _, _, _, r, hr => by simp [gRowsA] at hr
  | x :: xs, d, l, N, hf, hl, hN, r, hr => by
    simp only [List.length_cons] at hN
    have hxs : ∀ y ∈ xs, -12 ≤ y ∧ y ≤ 13 := fun y hy => hf y (by simp [hy])
    simp only [gRowsA] at hr
    split at hr
    · exact gRowsA_good xs _ _ N hxs hl (by omega) r hr
    · split at hr
      · simp only [List.mem_cons] at hr
        rcases hr with rfl | hr
        · exact ⟨hl, by dsimp only; omega⟩
        · exact gRowsA_good xs _ _ N hxs (by simp) (by simp; omega) r hr
      · refine gRowsA_good xs _ _ N hxs ?_ (by simp; omega) r hr
        intro y hy
        rcases List.mem_append.1 hy with hy | hy
        · exact hl y hy
        · simp at hy; subst hy; exact hf y (by simp)

theorem gRows_good (t : List UInt8) : (gRows (gParse t).2.2).length ≤ 20971520 ∧ ∀ r ∈ gRows (gParse t).2.2, (∀ x ∈ r.2, -12 ≤ x ∧ x ≤ 13) ∧ r.2.length ≤ 20971520 := by
  have h := gParse_good t
  refine ⟨?_, ?_⟩
  · have := gRowsA_len (gParse t).2.2 false []
    unfold gRows
    omega
  · exact gRowsA_good _ _ _ _ h.1 (by simp) (by simpa using h.2)

def BlkN (m : Mem) (b n : Nat) : Prop := ∃ f, m.blk b = some f ∧ f.wr = true ∧ (∀ i, i < n → (f.cell i).isSome = true)
theorem BlkN.keep {S : List Nat} {m m' : Mem} {b n : Nat} (h : BlkN m b n) (hk : Kp S m m') (hb : b ∉ S) : BlkN m' b n := by
  obtain ⟨f, h1, h2⟩ := h
  exact ⟨f, hk.keep b f hb h1, h2⟩
theorem BlkN.lt {m : Mem} {b n : Nat} (ok : m.Ok) (h : BlkN m b n) : b < m.top := by
  obtain ⟨f, h1, h2⟩ := h
  exact ok b f h1
theorem BlkN.new {m : Mem} (b : Nat) {l : List Value} {n : Nat} (h : n ≤ l.length) : BlkN (m.new b (Blk.ofList l)) b n :=
  ⟨_, Mem.new_at _ _ _, rfl, fun i hi => by simp [Blk.ofList]; omega⟩
theorem stL_put {m : Mem} {b n : Nat} {vs : List Value} {K : Mem → Prop} (ok : m.Ok) (h : BlkN m b n) (hn : vs.length ≤ n) (h1 : ∀ v ∈ vs, oneC v = true) (h0 : vs ≠ [])
    (hK : ∀ m', m'.Ok → Kp [b] m m' → m'.row b 0 vs → BlkN m' b n → K m') : stL m b 0 vs K := by
  obtain ⟨f, g1, g2, g3⟩ := h
  refine stL_of _ 0 _ f _ g1 g2 ?_ h1 ?_ (fun h => absurd h h0)
  · intro i hi
    rw [Nat.zero_add]
    exact g3 i (by omega)
  · refine hK _ (ok.setB g1) (Kp.setB g1 g2 _ (by simp)) (row_of fun i v hi => Mem.cell_of (Mem.setB_at _ _ _) ?_) ⟨_, Mem.setB_at _ _ _, rfl, ?_⟩
    · have hlt : i < vs.length := by
        rcases Nat.lt_or_ge i vs.length with h' | h'
        · exact h'
        · simp [List.getElem?_eq_none h'] at hi
      simp only [Nat.zero_add, Nat.zero_le, true_and, Nat.sub_zero, if_pos hlt]
      exact hi
    · intro i hi
      simp only
      split
      · rename_i h; rw [List.getElem?_eq_getElem (by omega)]; rfl
      · exact g3 i hi
theorem Mem.Le.rfl' {m : Mem} (ok : m.Ok) : m.Le m := ⟨Nat.le_refl _, fun c f hc => ⟨ok c f hc, f, hc, id, fun _ _ h => h⟩⟩

def gPr : List (List Int) → List (Bool × List Int) → List (List Int) × Int × Int
  | cs, [] => if 40 < cs.length then ([], 17, 0) else (cs, 0, 0)
  | cs, r :: rs => if r.1 = true then ([], 16, 0) else gPr (cs ++ [r.2]) rs
def gProblem (t : List UInt8) : List (List Int) × Int × Int := if (gParse t).1 ≠ 0 then ([], (gParse t).1, (gParse t).2.1) else gPr [] (gRows (gParse t).2.2)
theorem gPr_mem : ∀ (R : List (Bool × List Int)) (cs : List (List Int)), ∀ l ∈ (gPr cs R).1, l ∈ cs ∨ ∃ r ∈ R, l = r.2
  | [], cs, l, hl => by
    simp only [gPr] at hl
    split at hl
    · simp at hl
    · exact .inl hl
  | r :: rs, cs, l, hl => by
    simp only [gPr] at hl
    split at hl
    · simp at hl
    · rcases gPr_mem rs _ l hl with h | ⟨r', h1, h2⟩
      · rcases List.mem_append.1 h with h | h
        · exact .inl h
        · simp at h; exact .inr ⟨r, by simp, h⟩
      · exact .inr ⟨r', by simp [h1], h2⟩
theorem gPr_len : ∀ (R : List (Bool × List Int)) (cs : List (List Int)), (gPr cs R).1.length ≤ 40
  | [], cs => by
    simp only [gPr]
    split
    · simp
    · dsimp only; omega
  | r :: rs, cs => by
    simp only [gPr]
    split
    · simp
    · exact gPr_len rs _
theorem gProblem_good (t : List UInt8) : (gProblem t).1.length ≤ 40 ∧ ∀ l ∈ (gProblem t).1, (∀ x ∈ l, -12 ≤ x ∧ x ≤ 13) ∧ l.length ≤ 20971520 := by
  unfold gProblem
  split
  · simp
  · refine ⟨gPr_len _ _, fun l hl => ?_⟩
    rcases gPr_mem _ _ l hl with h | ⟨r, h1, rfl⟩
    · simp at h
    · exact (gRows_good t).2 r h1
theorem gProblem_smallB (t : List UInt8) : SmallB (gProblem t).1 := by
  have h := gProblem_good t
  exact ⟨⟨by omega, fun l hl => by have := (h.2 l hl).2; omega⟩, fun l hl x hx => by have := (h.2 l hl).1 x hx; unfold LitB; omega⟩
theorem problem_spec {p : Nat} {s : ByteArray} {r : List (List Int) × Int × Int} {K : Value → Mem → Prop} {m : Mem} (hp : PM m p) (hr : gProblem (bts s) = r)
    (hK : ∀ a n c m', m'.Ok → Kp [p] m m' → PM m' p → OwnII m' a n c r.1 → InS [] m (blkOf a) → K (.tuple #[.slice a n c, .int .i64 r.2.1, .int .i64 r.2.2]) m') : callOK Tryz.prog W0 73 [ptr p 0, .string s] K m := by
  refine callOK_ok fun ok => call73 ?_
  have hpl := hp.lt ok
  unfold s73
  have hgood := gRows_good (bts s)
  have hg0 := gParse_good (bts s)
  refine mparse_spec hp rfl ?_
  intro a1 n1 c1 m1 ok1 kp1 pm1 fz1
  refine ⟨_, _, _, _, _, rfl, ?_⟩
  unfold gProblem at hr
  generalize gParse (bts s) = q at hr fz1 hgood hg0
  have hz : zeroBlk Tryz.prog 73 = Blk.ofList [.int .i64 0, .int .i64 0, .slice none 0 0] := by kernel_rfl
  rw [hz]
  intro b hb
  have hk2 := Kp.new (S := []) ok1 hb (Blk.ofList [.int .i64 0, .int .i64 0, .slice none 0 0])
  have tp := kp1.top
  refine stL_put (n := 3) (ok1.new hb _) (BlkN.new b (by simp)) (by simp) (by intro v hv; simp at hv; rcases hv with rfl | rfl | rfl <;> rfl) (by simp) ?_
  intro m3 ok3 kp3 row3 _
  have k13 : Kp [] m1 m3 := hk2.step kp3 ok1 (fun b' hb' => .inr (by simp at hb'; omega))
  have k03 : Kp [p] m m3 := kp1.trans k13.of_nil
  have pm3 := pm1.keep k13 (by simp)
  refine ⟨_, row3.1, ?_⟩
  refine ifB_ne (fun hne => ?_) (fun he => ?_)
  · rw [if_pos hne] at hr
    subst hr
    exact ⟨_, row3.1, _, row3.2.1, hK _ _ _ _ ok3 k03 pm3 (Elt.own.nil _) (InS.nil _ _)⟩
  · rw [if_neg (by simpa using he)] at hr
    refine ⟨_, _, _, row3.2.2.1, ?_⟩
    have fz3 := fz1.keep k13
    refine rows_spec fz3.sl (by omega) rfl ?_
    intro a4 c4 m4 ok4 kp4 fz4
    refine ⟨_, _, _, rfl, ?_⟩
    generalize gRows q.2.2 = R at hr fz4 hgood ⊢
    have k04 := k03.trans kp4.of_nil
    have pm4 := pm3.keep kp4 (by simp)
    refine loop73_1 (γ := Nat × List (List Int)) (fun g ta tl tc t5 t6 ca cn cc i m' => i = g.1 ∧ g.1 ≤ R.length ∧ m'.Ok ∧ Kp [p] m m' ∧ PM m' p ∧ FzR m' a4 R.length R ∧ OwnII m' ca cn cc g.2 ∧ InS [] m (blkOf ca) ∧ g.2.length = g.1 ∧ gPr g.2 (R.drop g.1) = r) (fun g _ _ _ _ _ _ _ _ _ => R.length - g.1) (0, [])
      ⟨rfl, by dsimp only; omega, ok4, k04, pm4, fz4, Elt.own.nil _, InS.nil _ _, rfl, by simpa using hr⟩ ?_
    rintro ⟨k, cs⟩ ta tl tc t5 t6 ca cn cc i m5 ⟨rfl, hk, ok5, kp5, pm5, fz5, own5, in5, hlen, hj⟩
    dsimp only at hk own5 hlen hj ⊢
    have ec := own5.len
    unfold s73_1
    refine ifB_lt (fun hlt => ?_) (fun hlt => ?_)
    · have hkl : k < R.length := by omega
      rw [drop_cons hkl (false, [])] at hj
      simp only [gPr] at hj
      refine fz5.sl.getD (by omega) (by omega) fun _ _ _ => ?_
      simp only [Int.toNat_natCast]
      refine ifB_of (fun hd => ?_) (fun hd => ?_)
      · rw [if_pos hd] at hj
        rw [e73_1r]
        subst hj
        exact hK _ _ _ _ ok5 kp5 pm5 (Elt.own.nil _) (InS.nil _ _)
      · rw [if_neg (by rw [hd]; decide)] at hj
        refine fz5.sl.getR (by omega) (by omega) fun _ _ _ ai ni ci hi => ?_
        simp only [Int.toNat_natCast] at hi
        refine Elt.app1 (E := EL) ok5 own5 (x := (R.getD k (false, [])).2) ⟨_, _, _, rfl, hi⟩ rfl rfl (by omega) (by omega) ?_
        intro a6 c6 m6 ok6 kp6 own6 in6
        have npc : p ∉ blkOf ca := fun h0 => by
          rcases in5 p h0 with h | h
          · cases h
          · omega
        refine ⟨(k + 1, _), _, _, _, _, _, _, _, _, _, rfl, ⟨wrapS k (by omega), by dsimp only; omega, ok6, kp5.step kp6 ok (in5.mono (by simp)), pm5.keep kp6 npc, fz5.keep kp6, own6, in5.trans in6 kp5.top, by simp [hlen], hj⟩, by dsimp only; omega⟩
    · rw [e73_1x0]
      have : k = R.length := by omega
      subst this
      rw [List.drop_length] at hj
      simp only [gPr] at hj
      unfold s73_1x0
      refine ifB_gt (fun h40 => ?_) (fun h40 => ?_)
      · rw [if_pos (by omega)] at hj
        subst hj
        exact hK _ _ _ _ ok5 kp5 pm5 (Elt.own.nil _) (InS.nil _ _)
      · rw [if_neg (by omega)] at hj
        subst hj
        exact hK _ _ _ _ ok5 kp5 pm5 own5 in5

theorem problem_fz {p : Nat} {s : ByteArray} {r : List (List Int) × Int × Int} {K : Value → Mem → Prop} {m : Mem} (hp : PM m p) (hr : gProblem (bts s) = r)
    (hK : ∀ a n c m', m'.Ok → Kp [p] m m' → PM m' p → FzII m' a n r.1 → K (.tuple #[.slice a n c, .int .i64 r.2.1, .int .i64 r.2.2]) m') : callOK Tryz.prog W0 73 [ptr p 0, .string s] K m := by
  refine callOK_ice fun ok => problem_spec hp hr ?_
  have hpl := hp.lt ok
  intro a n c m1 ok1 kp1 pm1 own1 in1 _
  rcases own1.ice with ⟨b, ha, hfz⟩ | ⟨ha, hfl, hn0⟩
  · have hb3 : m.top ≤ b := by
      rcases in1 b (by simp [ha, blkOf]) with h | h
      · cases h
      · exact h
    have k45 : Kp [b] m1 (m1.ice b) := Kp.ice1 b
    exact ⟨m1.ice b, Mem.ice_le ok1 b, rfl, fun ok5 => hK _ _ _ _ ok5 (kp1.step k45 ok (fun b' hb' => .inr (by simp at hb'; omega))) (pm1.keep k45 (by simp; omega)) hfz⟩
  · refine ⟨m1, Mem.Le.rfl' ok1, rfl, fun ok5 => hK _ _ _ _ ok5 kp1 pm1 ?_⟩
    rw [hfl, hn0, ha]
    exact Elt.fz.nil _

def HoldsP (m : Mem) (s p : Nat) : Prop := m.cell s 0 = some (ptr p 0) ∧ s ≠ p
theorem HoldsP.keep {S : List Nat} {m m' : Mem} {s p : Nat} (h : HoldsP m s p) (hk : Kp S m m') (hs : s ∉ S) : HoldsP m' s p := ⟨hk.cell hs h.1, h.2⟩
theorem HoldsP.lt {m : Mem} {s p : Nat} (ok : m.Ok) (h : HoldsP m s p) : s < m.top := by
  have := h.1
  unfold Mem.cell at this
  cases hm : m.blk s with
  | none => simp [hm] at this
  | some f => exact ok s f hm
theorem stl7 {m : Mem} {b : Nat} {x0 x1 : Int} {x2 : Bool} {a : Option Addr} {n c : Nat} {x4 : ByteArray} {x5 x6 : Int} {K : Value → Mem → Prop} (ok : m.Ok) (h : BlkN m b 7)
    (hK : ∀ m', m'.Ok → Kp [b] m m' → K (.agg #[(.int .i64 x0), (.int .i64 x1), (.bool x2), (.slice a n c), (.string x4), (.int .i64 x5), (.int .i64 x6)]) m') :
    stL m b 0 [(.int .i64 x0), (.int .i64 x1), (.bool x2), (.slice a n c), (.string x4), (.int .i64 x5), (.int .i64 x6)] fun m1 =>
      ldInt .i64 m1 b 0 fun y0 => ldInt .i64 m1 b 1 fun y1 => ldBool m1 b 2 fun y2 => ldSl m1 b 3 fun a' n' c' => ldStr m1 b 4 fun y4 => ldInt .i64 m1 b 5 fun y5 => ldInt .i64 m1 b 6 fun y6 =>
      K (.agg #[(.int .i64 y0), (.int .i64 y1), (.bool y2), (.slice a' n' c'), (.string y4), (.int .i64 y5), (.int .i64 y6)]) m1 := by
  refine stL_put ok h (by simp) (by intro v hv; simp at hv; rcases hv with rfl | rfl | rfl | rfl | rfl | rfl | rfl <;> rfl) (by simp) ?_
  intro m' ok' kp' row' _
  obtain ⟨r0, r1, r2, r3, r4, r5, r6, _⟩ := row'
  exact ⟨_, r0, _, r1, _, r2, _, _, _, r3, _, r4, _, r5, _, r6, hK m' ok' kp'⟩
theorem msolve_spec {s p : Nat} {text : ByteArray} {r : List (List Int) × Int × Int} {K : Value → Mem → Prop} {m : Mem} (hp : PM m p) (hs : HoldsP m s p) (hr : gProblem (bts text) = r)
    (hK0 : r.2.1 ≠ 0 → ∀ m', m'.Ok → Kp [p] m m' → PM m' p → K (.agg #[(.int .i64 r.2.1), (.int .i64 r.2.2), (.bool false), (.slice none 0 0), (.string (ByteArray.mk #[])), (.int .i64 0), (.int .i64 0)]) m')
    (hK1 : r.2.1 = 0 → gTable r.1 4096 0 < 0 → ∀ x m', m'.Ok → Kp [p] m m' → PM m' p → K (.agg #[(.int .i64 0), (.int .i64 0), (.bool false), (.slice none 0 0), (.string x), (.int .i64 0), (.int .i64 0)]) m')
    (hK2 : r.2.1 = 0 → 0 ≤ gTable r.1 4096 0 → ∀ a n c x m', m'.Ok → Kp [p] m m' → PM m' p → K (.agg #[(.int .i64 0), (.int .i64 0), (.bool true), (.slice a n c), (.string x), (.int .i64 0), (.int .i64 0)]) m') :
    callOK Tryz.prog W0 72 [ptr s 0, .string text] K m := by
  refine callOK_ok fun ok => call72 ?_
  have hpl := hp.lt ok
  have hsl := hs.lt ok
  have hsb : SmallB r.1 := by rw [← hr]; exact gProblem_smallB _
  unfold s72
  have hz : zeroBlk Tryz.prog 39 = Blk.ofList [(.int .i64 0), (.int .i64 0), (.bool false), (.slice none 0 0), (.string (ByteArray.mk #[])), (.int .i64 0), (.int .i64 0)] := by kernel_rfl
  rw [hz]
  intro b hb
  have hk1 := Kp.new (S := []) ok hb (Blk.ofList [(.int .i64 0), (.int .i64 0), (.bool false), (.slice none 0 0), (.string (ByteArray.mk #[])), (.int .i64 0), (.int .i64 0)])
  have bn1 : BlkN (m.new b (Blk.ofList [(.int .i64 0), (.int .i64 0), (.bool false), (.slice none 0 0), (.string (ByteArray.mk #[])), (.int .i64 0), (.int .i64 0)])) b 7 := BlkN.new b (by simp)
  have ok1 := ok.new hb (Blk.ofList [(.int .i64 0), (.int .i64 0), (.bool false), (.slice none 0 0), (.string (ByteArray.mk #[])), (.int .i64 0), (.int .i64 0)])
  generalize m.new b (Blk.ofList [(.int .i64 0), (.int .i64 0), (.bool false), (.slice none 0 0), (.string (ByteArray.mk #[])), (.int .i64 0), (.int .i64 0)]) = m1 at hk1 bn1 ok1
  have hs1 := hs.keep hk1 (by simp)
  have hp1 := hp.keep hk1 (by simp)
  have hlt1 := bn1.lt ok1
  refine ⟨_, hs1.1, ?_⟩
  refine problem_fz hp1 hr ?_
  intro a2 n2 c2 m2 ok2 kp2 pm2 fz2
  refine ⟨_, _, _, _, _, rfl, ?_⟩
  have nbp : b ∉ [p] := by simp; omega
  have nsp : s ∉ [p] := by simpa using hs.2
  have k2 : Kp [p] m m2 := hk1.of_nil.trans kp2
  have bn2 := bn1.keep kp2 nbp
  have hs2 := hs1.keep kp2 nsp
  have wr : ∀ {m3 m4 : Mem}, Kp [p] m m3 → Kp [b] m3 m4 → Kp [p] m m4 := fun h h' => h.step h' ok (fun b' hb' => .inr (by simp at hb'; omega))
  have npb : p ∉ [b] := by simp; omega
  refine ifB_ne (fun hne => ?_) (fun he => ?_)
  · refine stl7 ok2 bn2 ?_
    intro m3 ok3 kp3
    exact hK0 hne m3 ok3 (wr k2 kp3) (pm2.keep kp3 npb)
  · refine table_spec fz2.sl hsb.1 rfl ⟨_, rfl, ?_⟩
    with_reducible refine ifB_lt (fun hlt => ?_) (fun hlt => ?_)
    · refine refute_spec hsb 12 none none 0 0 0 0 [] [] 0 _ m2 fz2 (Elt.sl.nil _) (Elt.own.nil _) (by simp) (by simp) (by intro x hx; cases hx) (by simp) ?_
      intro a3 n3 c3 m3 ok3 kp3 own3 in3
      refine ⟨_, _, _, rfl, ?_⟩
      have kp3' : Kp [] m2 m3 := kp3
      refine ⟨_, (hs2.keep kp3' (by simp)).1, ?_⟩
      have tp2 := k2.top
      refine mprint_spec (pm2.keep kp3' (by simp)) own3.sl (fun _ b' hb' h0 => ?_) ?_
      · simp at h0
        subst h0
        rcases in3 b' hb' with h | h
        · simp [blkOf] at h
        · omega
      intro x e m4 ok4 kp4 pm4 _
      refine ⟨_, _, rfl, ?_⟩
      refine stl7 ok4 ((bn2.keep kp3' (by simp)).keep kp4 nbp) ?_
      intro m5 ok5 kp5
      exact hK1 he hlt x m5 ok5 (wr ((k2.trans kp3'.of_nil).trans kp4) kp5) (pm4.keep kp5 npb)
    · refine ⟨by omega, by omega, by omega, by omega, ?_⟩
      intro b3 hb3
      have hkb := Kp.new (S := []) ok2 hb3 { wr := true, cell := rowsOf [(.int .i64 0)] (Int.toNat 12) }
      have hlt2 := bn2.lt ok2
      have tp2 := k2.top
      refine loop72_1 (γ := Nat) (fun k v m' => v = ((13 - k : Nat) : Int) ∧ k ≤ 12 ∧ m'.Ok ∧ Kp [p] m m' ∧ PM m' p ∧ BlkN m' b 7 ∧ BlkN m' b3 12) (fun k _ => k) 12
        ⟨rfl, by omega, ok2.new hb3 _, k2.trans hkb.of_nil, pm2.keep hkb (by simp), bn2.keep hkb (by simp), ⟨_, Mem.new_at _ _ _, rfl, ?_⟩⟩ ?_
      · intro i hi
        simp [rowsOf, Nat.mod_one]; omega
      rintro k v m4 ⟨hv, hk, ok4, kp4, pm4, bn4, bm4⟩
      unfold s72_1
      refine ifB_le (fun hle => ?_) (fun hle => ?_)
      · have hw : IntKind.wrap .i64 (v - 1) = v - 1 := wrap_i64 (by omega) (by omega)
        rw [hw]
        refine ⟨by omega, by simp; omega, ?_⟩
        obtain ⟨f, g1, g2, g3⟩ := bm4
        refine ⟨f, g1, g2, by rw [Nat.zero_add]; exact g3 _ (by omega), ?_⟩
        have hk5 : Kp [b3] m4 _ := Kp.setB (S := [b3]) g1 g2 (f.upd (0 + (v - 1).toNat) (.int .i64 (IntKind.wrap .i64 (0 - v)))) (by simp)
        have st5 : ∀ (m5 m6 : Mem), Kp [p] m m5 → Kp [b3] m5 m6 → Kp [p] m m6 := fun m5 m6 h h' => h.step h' ok (fun b' hb' => .inr (by simp at hb'; omega))
        have bk5 : ∀ (x : Value) (i : Nat), BlkN (m4.setB b3 (f.upd i x)) b3 12 := by
          intro x i
          refine ⟨_, Mem.setB_at _ _ _, g2, fun j hj => ?_⟩
          simp only [Blk.upd]
          split
          · rfl
          · exact g3 j hj
        refine ifB_of (fun ht => ?_) (fun ht => ?_)
        · refine ⟨by omega, by simp; omega, ?_⟩
          refine ⟨_, Mem.setB_at _ _ _, g2, by simp [Blk.upd], ?_⟩
          have hk6 : Kp [b3] _ _ := Kp.setB (S := [b3]) (Mem.setB_at m4 b3 (f.upd (0 + (v - 1).toNat) (.int .i64 (IntKind.wrap .i64 (0 - v))))) g2 ((f.upd (0 + (v - 1).toNat) (.int .i64 (IntKind.wrap .i64 (0 - v)))).upd (0 + (v - 1).toNat) (.int .i64 v)) (by simp)
          have hk56 := hk5.trans hk6
          refine ⟨k - 1, _, rfl, ⟨?_, by omega, (ok4.setB g1).setB (Mem.setB_at _ _ _), st5 _ _ kp4 hk56, pm4.keep hk56 (by simp; omega), bn4.keep hk56 (by simp; omega), ⟨_, Mem.setB_at _ _ _, g2, ?_⟩⟩, by omega⟩
          · rw [wrap_i64 (by omega) (by omega)]; omega
          · intro j hj
            simp only [Blk.upd]
            split
            · rfl
            · exact g3 j hj
        · refine ⟨k - 1, _, rfl, ⟨?_, by omega, ok4.setB g1, st5 _ _ kp4 hk5, pm4.keep hk5 (by simp; omega), bn4.keep hk5 (by simp; omega), bk5 _ _⟩, by omega⟩
          rw [wrap_i64 (by omega) (by omega)]; omega
      · rw [e72_1x0]
        unfold s72_1x0
        refine stl7 ok4 bn4 ?_
        intro m5 ok5 kp5
        exact hK2 he hlt _ _ _ _ m5 ok5 (wr kp4 kp5) (pm4.keep kp5 npb)
end Go.Proofs.Qxb6500974aGreat
