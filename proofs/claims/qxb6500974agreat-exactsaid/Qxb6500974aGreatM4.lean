import Derived.Test.Qxb6500974aGreatM3
set_option linter.all false
set_option linter.unusedSimpArgs false
set_option linter.unusedVariables false
namespace Go.Proofs.Qxb6500974aGreat
open Go.Eng
variable {W0 : World}

def gRow (flat : List Int) (del : Bool) (c : List Int) : List Int := (if del then flat ++ [13] else flat) ++ c ++ [0]
theorem gRow_len (flat : List Int) (del : Bool) (c : List Int) : (gRow flat del c).length ≤ flat.length + c.length + 2 := by
  unfold gRow
  cases del <;> simp <;> omega
theorem row_spec {fa ca : Option Addr} {fn fc cn cc : Nat} {del : Bool} {flat l : List Int} {K : Value → Mem → Prop} {m : Mem} (h : OwnI m fa fn fc flat) (hc : SlI m ca cn l) (hd : l ≠ [] → ∀ b ∈ blkOf ca, b ∉ blkOf fa)
    (hs : flat.length + l.length < 2 ^ 36) (hK : ∀ a' n' c' m', m'.Ok → Kp (blkOf fa) m m' → OwnI m' a' n' c' (gRow flat del l) → InS (blkOf fa) m (blkOf a') → K (.slice a' n' c') m') :
    callOK Tryz.prog W0 149 [.slice fa fn fc, .bool del, .slice ca cn cc] K m := by
  refine callOK_ok fun ok => call149 ?_
  have e1 := h.len
  have e2 := hc.len
  unfold s149
  refine ifB_of (fun hdel => ?_) (fun hdel => ?_)
  · subst hdel
    refine Elt.app1 (E := EI) ok h (x := 13) rfl rfl rfl (by omega) (by omega) ?_
    intro a1 c1 m1 ok1 kp1 own1 in1
    refine Elt.appL (E := EI) ok1 own1 (hc.keep kp1 hd) rfl rfl rfl (by omega) (by omega) ?_
    intro a2 c2 m2 ok2 kp2 own2 in2
    refine Elt.app1 (E := EI) ok2 own2 (x := 0) rfl rfl rfl (by omega) (by omega) ?_
    intro a3 c3 m3 ok3 kp3 own3 in3
    have k2 := kp1.step kp2 ok in1
    have i2 := in1.trans in2 kp1.top
    exact hK _ _ _ _ ok3 (k2.step kp3 ok i2) (by simpa [gRow] using own3) (i2.trans in3 k2.top)
  · subst hdel
    refine Elt.appL (E := EI) ok h hc rfl rfl rfl (by omega) (by omega) ?_
    intro a2 c2 m2 ok2 kp2 own2 in2
    refine Elt.app1 (E := EI) ok2 own2 (x := 0) rfl rfl rfl (by omega) (by omega) ?_
    intro a3 c3 m3 ok3 kp3 own3 in3
    exact hK _ _ _ _ ok3 (kp2.step kp3 ok in2) (by simpa [gRow] using own3) (in2.trans in3 kp2.top)

theorem gNext_range (L : List (List Int)) : ∀ (n : Nat) (u : Int), 0 < u → gNext L n u = 0 ∨ (u ≤ gNext L n u ∧ gNext L n u < u + n)
  | 0, u, _ => .inl rfl
  | n + 1, u, hu => by
    simp only [gNext]
    split
    · right; omega
    · rcases gNext_range L n (u + 1) (by omega) with h | h
      · exact .inl h
      · right; omega

def gRefute (L : List (List Int)) : Nat → List Int → Int → List Int → List Int
  | 0, pre, _, flat => gRow flat false (pre.map fun x => -x)
  | k + 1, pre, last, flat =>
    let v := gNext L (12 - last).toNat (last + 1)
    if v = 0 then gRow flat false (pre.map fun x => -x)
    else if gRup L (pre.map fun x => -x) = true then gRow flat false (pre.map fun x => -x)
    else gRow (gRow (gRow (gRefute L k (pre ++ [-v]) v (gRefute L k (pre ++ [v]) v flat)) false (pre.map fun x => -x)) true ((pre ++ [v]).map fun x => -x)) true ((pre ++ [-v]).map fun x => -x)
theorem gRefute_len (L : List (List Int)) : ∀ (k : Nat) (pre : List Int) (last : Int) (flat : List Int), pre.length + k ≤ 13 → (gRefute L k pre last flat).length + 48 ≤ flat.length + 64 * 2 ^ k
  | 0, pre, _, flat, h => by
    simp only [gRefute]
    have := gRow_len flat false (pre.map fun x => -x)
    simp only [List.length_map] at this
    omega
  | k + 1, pre, last, flat, h => by
    have hp : 2 ^ (k + 1) = 2 * 2 ^ k := by rw [Nat.pow_succ]; omega
    have hp1 : 1 ≤ 2 ^ k := Nat.one_le_two_pow
    have h1 := gRow_len flat false (pre.map fun x => -x)
    simp only [List.length_map] at h1
    simp only [gRefute]
    split
    · omega
    · split
      · omega
      · generalize gNext L (12 - last).toNat (last + 1) = v
        have a1 := gRefute_len L k (pre ++ [v]) v flat (by simp; omega)
        have a2 := gRefute_len L k (pre ++ [-v]) v (gRefute L k (pre ++ [v]) v flat) (by simp; omega)
        generalize gRefute L k (pre ++ [-v]) v (gRefute L k (pre ++ [v]) v flat) = f2 at *
        generalize gRefute L k (pre ++ [v]) v flat = f1 at *
        have b1 := gRow_len f2 false (pre.map fun x => -x)
        generalize gRow f2 false (pre.map fun x => -x) = g1 at *
        have b2 := gRow_len g1 true ((pre ++ [v]).map fun x => -x)
        generalize gRow g1 true ((pre ++ [v]).map fun x => -x) = g2 at *
        have b3 := gRow_len g2 true ((pre ++ [-v]).map fun x => -x)
        simp only [List.length_map, List.length_append, List.length_cons, List.length_nil] at b1 b2 b3
        omega
theorem refute_spec {ca : Option Addr} {cn cc : Nat} {L : List (List Int)} (hs : SmallB L) : ∀ (k : Nat) (pa fa : Option Addr) (pn pc fn fc : Nat) (pre flat : List Int) (last : Int) (K : Value → Mem → Prop) (m : Mem),
    FzII m ca cn L → SlI m pa pn pre → OwnI m fa fn fc flat → (pre ≠ [] → ∀ b ∈ blkOf pa, b ∉ blkOf fa) → (0 ≤ last ∧ last ≤ 12 ∧ 12 ≤ last + k ∧ k ≤ 12 ∧ pre.length + k ≤ 13) → AllB pre → flat.length + 64 * 2 ^ k < 2 ^ 34 →
    (∀ a' n' c' m', m'.Ok → Kp (blkOf fa) m m' → OwnI m' a' n' c' (gRefute L k pre last flat) → InS (blkOf fa) m (blkOf a') → K (.slice a' n' c') m') →
    callOK Tryz.prog W0 123 [.slice ca cn cc, .slice pa pn pc, .int .i64 last, .slice fa fn fc] K m := by
  intro k
  induction k with
  | zero =>
    intro pa fa pn pc fn fc pre flat last K m hL hp hf hd hk hb hsm hK
    refine callOK_ok fun ok => call123 ?_
    unfold s123
    refine deny_spec hp (by omega) hb ?_
    intro a1 c1 m1 ok1 kp1 own1 in1
    refine ⟨_, _, _, rfl, ?_⟩
    have hl : last = 12 := by omega
    subst hl
    refine next_spec (hL.keep kp1).sl hs.1 (by omega) rfl ⟨_, rfl, ?_⟩
    refine ifB_eq (fun he => ?_) (fun he => absurd rfl he)
    refine row_spec (hf.keep0 kp1) own1.sl (fun _ b hb1 hb2 => ?_) (by simp; omega) ?_
    · have := hf.lt ok b hb2
      rcases in1 b hb1 with h | h
      · cases h
      · omega
    intro a2 n2 c2 m2 ok2 kp2 own2 in2
    refine ⟨_, _, _, rfl, hK _ _ _ _ ok2 (kp1.of_nil.trans kp2) own2 (fun b hb => (in2 b hb).orMap id (fun h => by have := kp1.top; omega))⟩
  | succ k ih =>
    intro pa fa pn pc fn fc pre flat last K m hL hp hf hd hk hb hsm hK
    refine callOK_ok fun ok => call123 ?_
    have hp2 : 2 ^ (k + 1) = 2 * 2 ^ k := by rw [Nat.pow_succ]; omega
    have hp1 : 1 ≤ 2 ^ k := Nat.one_le_two_pow
    have ep := hp.len
    unfold s123
    refine deny_spec hp (by omega) hb ?_
    intro a1 c1 m1 ok1 kp1 own1 in1
    refine ⟨_, _, _, rfl, ?_⟩
    have d1 : ∀ b, b ∈ blkOf a1 → b ∉ blkOf fa := by
      intro b hb1 hb2
      have := hf.lt ok b hb2
      rcases in1 b hb1 with h | h
      · cases h
      · omega
    have hbd : AllB (pre.map fun x => -x) := by
      intro x hx
      simp only [List.mem_map] at hx
      obtain ⟨y, hy, rfl⟩ := hx
      have := hb y hy
      unfold LitB at *
      omega
    simp only [gRefute] at hK
    have hrange := gNext_range L (12 - last).toNat (last + 1) (by omega)
    refine next_spec (hL.keep kp1).sl hs.1 (by omega) rfl ⟨_, rfl, ?_⟩
    generalize gNext L (12 - last).toNat (last + 1) = v at hK hrange ⊢
    have leaf : ∀ (m2 : Mem) (K2 : Value → Mem → Prop), m2.Ok → Kp [] m1 m2 → (∀ a' n' c' m', m'.Ok → Kp (blkOf fa) m m' → OwnI m' a' n' c' (gRow flat false (pre.map fun x => -x)) → InS (blkOf fa) m (blkOf a') → K2 (.slice a' n' c') m') →
        callOK Tryz.prog W0 149 [.slice fa fn fc, .bool false, .slice a1 pn c1] K2 m2 := by
      intro m2 K2 ok2 kp2 hK2
      refine row_spec ((hf.keep0 kp1).keep0 kp2) (own1.keep0 kp2).sl (fun _ b hb1 => d1 b hb1) (by simp; omega) ?_
      intro a2 n2 c2 m3 ok3 kp3 own3 in3
      exact hK2 _ _ _ _ ok3 ((kp1.trans kp2).of_nil.trans kp3) own3 (fun b hb => (in3 b hb).orMap id (fun h => by have := kp1.top; have := kp2.top; omega))
    refine ifB_eq (fun he => ?_) (fun he => ?_)
    · simp only [he, if_true] at hK
      refine leaf m1 _ ok1 (Kp.refl _ _) ?_
      intro a2 n2 c2 m2 ok2 kp2 own2 in2
      exact ⟨_, _, _, rfl, hK _ _ _ _ ok2 kp2 own2 in2⟩
    · rw [if_neg he] at hK
      refine rup_spec (hL.keep kp1).sl own1.sl hs (by simp; omega) hbd ?_
      intro m2 ok2 kp2
      refine ⟨_, rfl, ?_⟩
      refine ifB_of (fun hr => ?_) (fun hr => ?_)
      · rw [if_pos hr] at hK
        refine leaf m2 _ ok2 kp2 ?_
        intro a2 n2 c2 m3 ok3 kp3 own3 in3
        exact ⟨_, _, _, rfl, hK _ _ _ _ ok3 kp3 own3 in3⟩
      · rw [if_neg (by simp [hr])] at hK
        have hvr : last + 1 ≤ v ∧ v ≤ 12 := by omega
        have k12 := kp1.trans kp2
        refine copyInts_spec (hp.keep0 k12) (by omega) ?_
        intro a3 m3 ok3 kp3 own3 in3 _
        refine ⟨_, _, _, rfl, ?_⟩
        refine Elt.app1 (E := EI) ok3 own3 (x := v) rfl rfl rfl (by omega) (by omega) ?_
        intro a4 c4 m4 ok4 kp4 own4 in4
        have k24 : Kp [] m2 m4 := kp3.step kp4 ok2 in3
        have in4' : InS [] m2 (blkOf a4) := in3.trans in4 kp3.top
        have k14 := k12.trans k24
        refine copyInts_spec (hp.keep0 k14) (by omega) ?_
        intro a5 m5 ok5 kp5 own5 in5 _
        refine ⟨_, _, _, rfl, ?_⟩
        rw [wrap_neg (by unfold LitB; omega)]
        refine Elt.app1 (E := EI) ok5 own5 (x := -v) rfl rfl rfl (by omega) (by omega) ?_
        intro a6 c6 m6 ok6 kp6 own6 in6
        have k46 : Kp [] m4 m6 := kp5.step kp6 ok4 in5
        have in6' : InS [] m4 (blkOf a6) := in5.trans in6 kp5.top
        have k06 := k14.trans k46
        have own4' := own4.keep0 k46
        have t1 := k12.top; have t2 := k24.top; have t3 := k46.top
        have l4 := own4.lt ok4
        have l6 := own6.lt ok6
        have df4 : ∀ b, b ∈ blkOf a4 → b ∉ blkOf fa := by
          intro b hb1 hb2
          have := hf.lt ok b hb2
          rcases in4' b hb1 with h | h
          · cases h
          · omega
        have df6 : ∀ b, b ∈ blkOf a6 → b ∉ blkOf fa := by
          intro b hb1 hb2
          have := hf.lt ok b hb2
          rcases in6' b hb1 with h | h
          · cases h
          · omega
        refine ih a4 fa _ _ _ _ (pre ++ [v]) flat v _ m6 (hL.keep k06) own4'.sl (hf.keep0 k06) (fun _ => df4) (by simp only [List.length_append, List.length_cons, List.length_nil]; omega) ?_ (by omega) ?_
        · intro x hx
          simp only [List.mem_append, List.mem_cons, List.not_mem_nil, or_false] at hx
          rcases hx with hx | rfl
          · exact hb x hx
          · unfold LitB; omega
        intro f1a f1n f1c m7 ok7 kp7 ownf1 inf1
        refine ⟨_, _, _, rfl, ?_⟩
        have t4 := kp7.top
        have dn : ∀ b, b ∈ blkOf a6 → b ∉ blkOf f1a := by
          intro b hb1 hb2
          rcases inf1 b hb2 with h | h
          · exact df6 b hb1 h
          · have := l6 b hb1; omega
        have dy : ∀ b, b ∈ blkOf a4 → b ∉ blkOf f1a := by
          intro b hb1 hb2
          rcases inf1 b hb2 with h | h
          · exact df4 b hb1 h
          · have := l4 b hb1; omega
        have own6' : OwnI m7 a6 _ _ _ := own6.keep kp7 (fun b hb => df6 b hb)
        have own4'' : OwnI m7 a4 _ _ _ := own4'.keep kp7 (fun b hb => df4 b hb)
        have own1'' : OwnI m7 a1 _ _ _ := (own1.keep0 (kp2.trans (k24.trans k46))).keep kp7 (fun b hb => d1 b hb)
        have hlen1 := gRefute_len L k (pre ++ [v]) v flat (by simp; omega)
        have hlen2 := gRefute_len L k (pre ++ [-v]) v (gRefute L k (pre ++ [v]) v flat) (by simp; omega)
        refine ih a6 f1a _ _ _ _ (pre ++ [-v]) _ v _ m7 ((hL.keep k06).keep kp7) own6'.sl ownf1 (fun _ => dn) (by simp only [List.length_append, List.length_cons, List.length_nil]; omega) ?_ (by omega) ?_
        · intro x hx
          simp only [List.mem_append, List.mem_cons, List.not_mem_nil, or_false] at hx
          rcases hx with hx | rfl
          · exact hb x hx
          · unfold LitB; omega
        intro f2a f2n f2c m8 ok8 kp8 ownf2 inf2
        refine ⟨_, _, _, rfl, ?_⟩
        generalize gRefute L k (pre ++ [-v]) v (gRefute L k (pre ++ [v]) v flat) = F2 at hK hlen2 ownf2 ⊢
        have l7 := ok7
        have lt1 : ∀ b, b ∈ blkOf a1 → b < m1.top := own1.lt ok1
        have inf2' : InS (blkOf fa) m6 (blkOf f2a) := inf1.trans inf2 kp7.top
        have kp68 : Kp (blkOf fa) m6 m8 := kp7.step kp8 ok6 inf1
        have ne2 : ∀ b, b < m6.top → b ∉ blkOf fa → b ∉ blkOf f2a := by
          intro b h1 h2 h3
          rcases inf2' b h3 with h | h
          · exact h2 h
          · omega
        have own1m8 : OwnI m8 a1 _ _ _ := (own1.keep0 (kp2.trans (k24.trans k46))).keep kp68 (fun b hb => d1 b hb)
        have own4m8 : OwnI m8 a4 _ _ _ := own4'.keep kp68 (fun b hb => df4 b hb)
        have own6m8 : OwnI m8 a6 _ _ _ := own6.keep kp68 (fun b hb => df6 b hb)
        have tk1 := kp1.top; have tk2 := kp2.top
        refine row_spec ownf2 own1m8.sl (fun _ b hb1 => ne2 b (by have := lt1 b hb1; omega) (d1 b hb1)) (by simp; omega) ?_
        intro g1a g1n g1c m9 ok9 kp9 owng1 ing1
        refine ⟨_, _, _, rfl, ?_⟩
        have ing1' : InS (blkOf fa) m6 (blkOf g1a) := inf2'.trans ing1 kp68.top
        have kp69 : Kp (blkOf fa) m6 m9 := kp68.step kp9 ok6 inf2'
        have ne3 : ∀ b, b < m6.top → b ∉ blkOf fa → b ∉ blkOf g1a := by
          intro b h1 h2 h3
          rcases ing1' b h3 with h | h
          · exact h2 h
          · omega
        have own4m9 : OwnI m9 a4 _ _ _ := own4'.keep kp69 (fun b hb => df4 b hb)
        have own6m9 : OwnI m9 a6 _ _ _ := own6.keep kp69 (fun b hb => df6 b hb)
        have hgl1 := gRow_len F2 false (pre.map fun x => -x)
        simp only [List.length_map] at hgl1
        generalize gRow F2 false (pre.map fun x => -x) = G1 at hK hgl1 owng1 ⊢
        refine deny_spec own4m9.sl (by simp; omega) ?_ ?_
        · intro x hx
          simp only [List.mem_append, List.mem_cons, List.not_mem_nil, or_false] at hx
          rcases hx with hx | rfl
          · exact hb x hx
          · unfold LitB; omega
        intro a10 c10 m10 ok10 kp10 own10 in10
        refine ⟨_, _, _, rfl, ?_⟩
        have tt := kp69.top
        refine row_spec (owng1.keep0 kp10) own10.sl (fun _ b hb1 hb2 => ?_) (by simp; omega) ?_
        · have := owng1.lt ok9 b hb2
          rcases in10 b hb1 with h | h
          · cases h
          · omega
        intro g2a g2n g2c m11 ok11 kp11 owng2 ing2
        refine ⟨_, _, _, rfl, ?_⟩
        have kp6a : Kp (blkOf fa) m6 m10 := kp69.trans kp10.of_nil
        have kp6b : Kp (blkOf fa) m6 m11 := kp6a.step kp11 ok6 ing1'
        have ing2' : InS (blkOf fa) m6 (blkOf g2a) := ing1'.trans ing2 kp6a.top
        have own6mb : OwnI m11 a6 _ _ _ := own6.keep kp6b (fun b hb => df6 b hb)
        have hgl2 := gRow_len G1 true ((pre ++ [v]).map fun x => -x)
        simp only [List.length_map, List.length_append, List.length_cons, List.length_nil] at hgl2
        generalize gRow G1 true ((pre ++ [v]).map fun x => -x) = G2 at hK hgl2 owng2 ⊢
        refine deny_spec own6mb.sl (by simp; omega) ?_ ?_
        · intro x hx
          simp only [List.mem_append, List.mem_cons, List.not_mem_nil, or_false] at hx
          rcases hx with hx | rfl
          · exact hb x hx
          · unfold LitB; omega
        intro a12 c12 m12 ok12 kp12 own12 in12
        refine ⟨_, _, _, rfl, ?_⟩
        have tt2 := kp6b.top
        refine row_spec (owng2.keep0 kp12) own12.sl (fun _ b hb1 hb2 => ?_) (by simp; omega) ?_
        · have := owng2.lt ok11 b hb2
          rcases in12 b hb1 with h | h
          · cases h
          · omega
        intro g3a g3n g3c m13 ok13 kp13 owng3 ing3
        refine ⟨_, _, _, rfl, ?_⟩
        have kp6c : Kp (blkOf fa) m6 m12 := kp6b.trans kp12.of_nil
        have kp6d : Kp (blkOf fa) m6 m13 := kp6c.step kp13 ok6 ing2'
        have ing3' : InS (blkOf fa) m6 (blkOf g3a) := ing2'.trans ing3 kp6c.top
        refine hK _ _ _ _ ok13 (k06.of_nil.trans kp6d) owng3 (fun b hb => (ing3' b hb).orMap id (fun h => by have := k06.top; omega))
end Go.Proofs.Qxb6500974aGreat
