import Derived.Test.Qxb6500974aGreatM5
set_option linter.all false
set_option linter.unusedSimpArgs false
set_option linter.unusedVariables false
namespace Go.Proofs.Qxb6500974aGreat
open Go.Eng
variable {W0 : World}

def gAdds : Int → List (Bool × List Int) → Int
  | n, [] => n
  | n, r :: rs => if r.1 = false then gAdds (n + 1) rs else gAdds n rs
theorem adds_spec {a : Option Addr} {n c : Nat} {R : List (Bool × List Int)} {r : Int} {K : Value → Mem → Prop} {m : Mem} (h : SlR m a n R) (hl : R.length < 2 ^ 36) (hr : gAdds 0 R = r)
    (hK : K (.int .i64 r) m) : callOK Tryz.prog W0 83 [.slice a n c] K m := by
  refine call83 ?_
  have e1 := h.len
  unfold s83
  refine loop83_1 (γ := Nat) (fun k s i m' => m' = m ∧ i = k ∧ k ≤ R.length ∧ (0 ≤ s ∧ s ≤ k) ∧ gAdds s (R.drop k) = r) (fun k _ _ => R.length - k) 0 ⟨rfl, rfl, by omega, by omega, hr⟩ ?_
  rintro k s i m' ⟨rfl, rfl, hk, hs, hj⟩
  unfold s83_1
  refine ifB_lt (fun hlt => ?_) (fun hlt => ?_)
  · have hkl : k < R.length := by omega
    rw [drop_cons hkl (false, [])] at hj
    simp only [gAdds] at hj
    refine h.getD (by omega) (by omega) fun _ _ _ => ?_
    simp only [Int.toNat_natCast]
    refine ifB_not (fun he => ?_) (fun he => ?_)
    · rw [if_pos he] at hj
      refine ⟨k + 1, _, _, rfl, ⟨rfl, wrapS k (by omega), by omega, ?_, ?_⟩, by omega⟩
      · rw [wrap_i64 (by omega) (by omega)]; omega
      · rw [wrap_i64 (by omega) (by omega)]; exact hj
    · rw [if_neg (by rw [he]; decide)] at hj
      exact ⟨k + 1, _, _, rfl, ⟨rfl, wrapS k (by omega), by omega, by omega, hj⟩, by omega⟩
  · rw [e83_1x0]
    have : k = R.length := by omega
    subst this
    rw [List.drop_length] at hj
    simp only [gAdds] at hj
    subst hj; exact hK

def gTake (c : List Int) : List (List Int) → List (List Int) → Option (List (List Int))
  | _, [] => none
  | pre, x :: xs => if x = c then some (pre ++ xs) else gTake c (pre ++ [x]) xs
theorem take_spec {a a' : Option Addr} {n c n' c' : Nat} {L : List (List Int)} {l : List Int} {K : Value → Mem → Prop} {m : Mem} (h : OwnII m a n c L) (h' : SlI m a' n' l) (hs : Small L) (hl : l.length < 2 ^ 36)
    (hK0 : gTake l [] L = none → K (.tuple #[.slice a n c, .bool false]) m)
    (hK1 : ∀ L' a1 n1 c1 m', gTake l [] L = some L' → m'.Ok → Kp [] m m' → OwnII m' a1 n1 c1 L' → InS [] m (blkOf a1) → K (.tuple #[.slice a1 n1 c1, .bool true]) m') :
    callOK Tryz.prog W0 132 [.slice a n c, .slice a' n' c'] K m := by
  refine callOK_ok fun ok => call132 ?_
  have e1 := h.len
  have hcap : n ≤ c := by obtain ⟨_, css, h1, _⟩ := h; exact h1.2.1
  have hb := hs.1
  unfold s132
  refine loop132_1 (γ := Nat) (fun k ta tl tc t5 i m' => m' = m ∧ i = k ∧ k ≤ L.length ∧ gTake l (L.take k) (L.drop k) = gTake l [] L) (fun k _ _ _ _ _ => L.length - k) 0 ⟨rfl, rfl, by omega, by simp⟩ ?_
  rintro k ta tl tc t5 i m' ⟨rfl, rfl, hk, hj⟩
  unfold s132_1
  refine ifB_lt (fun hlt => ?_) (fun hlt => ?_)
  · have hkl : k < L.length := by omega
    rw [drop_cons hkl []] at hj
    simp only [gTake] at hj
    refine h.sl.getL (by omega) (by omega) fun _ _ _ ai ni ci hi => ?_
    simp only [Int.toNat_natCast] at hi
    refine sameInts_spec hi.sl h' (by have := hs.at k; omega) ⟨_, rfl, ?_⟩
    refine ifB_of (fun he => ?_) (fun he => ?_)
    · rw [decide_eq_true_eq] at he
      rw [if_pos he] at hj
      refine ⟨by omega, by omega, ?_⟩
      have s1 := h.sl.sub (lo := 0) (hi := k) (c := c) (by omega) (by omega) hcap
      refine Elt.appL (E := EL) ok (Elt.own.nil m') s1 (by simp) rfl rfl (by omega) (by simp; omega) ?_
      intro a1 c1 m1 ok1 kp1 own1 in1
      rw [wrapS k (by omega)]
      refine ⟨by omega, by omega, ?_⟩
      have s2 := ((h.keep0 kp1).sl).sub (lo := k + 1) (hi := n) (c := c) (by omega) (by omega) hcap
      refine Elt.appL (E := EL) ok1 own1 s2 rfl rfl rfl (by omega) (by simp; omega) ?_
      intro a2 c2 m2 ok2 kp2 own2 in2
      rw [e132_1r]
      refine hK1 _ _ _ _ _ hj.symm ok2 (kp1.step kp2 ok in1) ?_ (in1.trans in2 kp1.top)
      have e3 : L.take n = L := by rw [e1]; exact List.take_length
      rw [e3] at own2
      simpa using own2
    · have he' : ¬ (L.getD k [] = l) := by simpa using he
      rw [if_neg he'] at hj
      refine ⟨k + 1, _, _, _, _, _, rfl, ⟨rfl, wrapS k (by omega), by omega, ?_⟩, by omega⟩
      rw [take_succ_getD hkl []]
      exact hj
  · rw [e132_1x0]
    have : k = L.length := by omega
    subst this
    rw [List.drop_length] at hj
    simp only [gTake] at hj
    exact hK0 hj.symm

def gBag : List (List Int) → List (Bool × List Int) → Option (List (List Int))
  | bag, [] => some bag
  | bag, r :: rs => if r.1 = true then (match gTake r.2 [] bag with | none => none | some b => gBag b rs) else gBag (bag ++ [r.2]) rs
def gTakeAll : List (List Int) → List (List Int) → Option (List (List Int))
  | bag, [] => some bag
  | bag, l :: ls => match gTake l [] bag with | none => none | some b => gTakeAll b ls
def gLogIsStore (problem : List (List Int)) (proof : List (Bool × List Int)) (live : List (List Int)) : Bool :=
  match gBag problem proof with
  | none => false
  | some b => match gTake [] [] b with
    | none => false
    | some b => match gTakeAll b live with
      | none => false
      | some b => decide (b.length = 0)
theorem gTake_len (c : List Int) : ∀ (L pre L' : List (List Int)), gTake c pre L = some L' → L'.length + 1 = pre.length + L.length
  | [], pre, L', h => by simp [gTake] at h
  | x :: xs, pre, L', h => by
    simp only [gTake] at h
    split at h
    · cases h; simp; omega
    · have := gTake_len c xs _ L' h
      simp at this ⊢
      omega
theorem gTake_mem (c : List Int) : ∀ (L pre L' : List (List Int)), gTake c pre L = some L' → ∀ l ∈ L', l ∈ pre ∨ l ∈ L
  | [], pre, L', h => by simp [gTake] at h
  | x :: xs, pre, L', h => by
    simp only [gTake] at h
    split at h
    · cases h
      intro l hl
      rcases List.mem_append.1 hl with h1 | h1
      · exact .inl h1
      · exact .inr (by simp [h1])
    · intro l hl
      rcases gTake_mem c xs _ L' h l hl with h1 | h1
      · rcases List.mem_append.1 h1 with h2 | h2
        · exact .inl h2
        · simp at h2; subst h2; exact .inr (by simp)
      · exact .inr (by simp [h1])
theorem logIsStore_spec {pa ra la : Option Addr} {pn pc rn rc ln lc : Nat} {P : List (List Int)} {R : List (Bool × List Int)} {L : List (List Int)} {K : Value → Mem → Prop} {m : Mem}
    (hP : SlII m pa pn P) (hR : SlR m ra rn R) (hL : SlII m la ln L) (sP : P.length < 2 ^ 30 ∧ ∀ l ∈ P, l.length < 2 ^ 36) (sR : R.length < 2 ^ 30 ∧ ∀ r ∈ R, r.2.length < 2 ^ 36) (sL : Small L)
    (hK : ∀ m', m'.Ok → Kp [] m m' → K (.bool (gLogIsStore P R L)) m') : callOK Tryz.prog W0 84 [.slice pa pn pc, .slice ra rn rc, .slice la ln lc] K m := by
  refine callOK_ok fun ok => call84 ?_
  have e1 := hP.len
  have e2 := hR.len
  have e3 := hL.len
  unfold s84
  refine Elt.appL (E := EL) ok (Elt.own.nil m) hP rfl rfl rfl (by omega) (by omega) ?_
  intro a1 c1 m1 ok1 kp1 own1 in1
  have hsl := sL.1
  refine loop84_1 (γ := Nat × List (List Int)) (fun g t6 ba bn bc i m' => i = g.1 ∧ g.1 ≤ R.length ∧ m'.Ok ∧ Kp [] m m' ∧ OwnII m' ba bn bc g.2 ∧ InS [] m (blkOf ba) ∧ g.2.length ≤ P.length + g.1 ∧ (∀ l ∈ g.2, l.length < 2 ^ 36) ∧ gBag g.2 (R.drop g.1) = gBag P R) (fun g _ _ _ _ _ => R.length - g.1) (0, P)
    ⟨rfl, by omega, ok1, kp1, by simpa using own1, in1, by simp, sP.2, by simp⟩ ?_
  rintro ⟨k, bag⟩ t6 ba bn bc i m2 ⟨rfl, hk, ok2, kp2, own2, in2, hlen, hsm, hj⟩
  dsimp only at hk own2 hlen hsm hj ⊢
  have eb := own2.len
  unfold s84_1
  refine ifB_lt (fun hlt => ?_) (fun hlt => ?_)
  · have hkl : k < R.length := by omega
    rw [drop_cons hkl (false, [])] at hj
    simp only [gBag] at hj
    have hsr : (R.getD k (false, [])).2.length < 2 ^ 36 := by
      have : R.getD k (false, []) = R[k] := by simp [List.getD, hkl]
      rw [this]; exact sR.2 _ (List.getElem_mem hkl)
    refine (hR.keep0 kp2).getD (by omega) (by omega) fun _ _ _ => ?_
    simp only [Int.toNat_natCast]
    refine ifB_of (fun he => ?_) (fun he => ?_)
    · rw [if_pos he] at hj
      refine (hR.keep0 kp2).getR (by omega) (by omega) fun _ _ _ ai ni ci hi => ?_
      simp only [Int.toNat_natCast] at hi
      refine take_spec own2 hi.sl ⟨by omega, hsm⟩ hsr ?_ ?_
      · intro hn
        refine ⟨_, _, _, _, rfl, ?_⟩
        with_reducible refine ifB_not (fun _ => ?_) (fun h0 => by cases h0)
        rw [e84_1r]
        rw [hn] at hj
        have : gLogIsStore P R L = false := by unfold gLogIsStore; rw [← hj]
        rw [← this]
        exact hK _ ok2 kp2
      · intro L' a3 n3 c3 m3 hL' ok3 kp3 own3 in3
        refine ⟨_, _, _, _, rfl, ?_⟩
        with_reducible refine ifB_not (fun h0 => by cases h0) (fun _ => ?_)
        rw [hL'] at hj
        have h1 := gTake_len _ _ _ _ hL'
        have h2 := gTake_mem _ _ _ _ hL'
        refine ⟨(k + 1, L'), _, _, _, _, _, rfl, ⟨wrapS k (by omega), by dsimp only; omega, ok3, kp2.trans kp3, own3, ?_, ?_, ?_, hj⟩, by dsimp only; omega⟩
        · intro b hb
          exact (in3 b hb).orMap id (fun h => by have := kp2.top; omega)
        · simp at h1 ⊢; omega
        · intro l hl
          rcases h2 l hl with h3 | h3
          · cases h3
          · exact hsm l h3
    · rw [if_neg (by rw [he]; decide)] at hj
      refine (hR.keep0 kp2).getR (by omega) (by omega) fun _ _ _ ai ni ci hi => ?_
      simp only [Int.toNat_natCast] at hi
      refine Elt.app1 (E := EL) ok2 own2 (x := (R.getD k (false, [])).2) ⟨_, _, _, rfl, hi⟩ rfl rfl (by omega) (by omega) ?_
      intro a3 c3 m3 ok3 kp3 own3 in3
      refine ⟨(k + 1, _), _, _, _, _, _, rfl, ⟨wrapS k (by omega), by dsimp only; omega, ok3, kp2.step kp3 ok in2, own3, in2.trans in3 kp2.top, ?_, ?_, hj⟩, by dsimp only; omega⟩
      · simp; omega
      · intro l hl
        rcases List.mem_append.1 hl with h3 | h3
        · exact hsm l h3
        · simp only [List.mem_cons, List.not_mem_nil, or_false] at h3; subst h3; exact hsr
  · rw [e84_1x0]
    have : k = R.length := by omega
    subst this
    rw [List.drop_length] at hj
    simp only [gBag] at hj
    unfold s84_1x0
    refine take_spec own2 (Elt.sl.nil m2) ⟨by omega, hsm⟩ (by simp) ?_ ?_
    · intro hn
      refine ⟨_, _, _, _, rfl, ?_⟩
      with_reducible refine ifB_not (fun _ => ?_) (fun h0 => by cases h0)
      have : gLogIsStore P R L = false := by unfold gLogIsStore; rw [← hj]; dsimp only; rw [hn]
      rw [← this]
      exact hK _ ok2 kp2
    · intro L' a3 n3 c3 m3 hL' ok3 kp3 own3 in3
      refine ⟨_, _, _, _, rfl, ?_⟩
      with_reducible refine ifB_not (fun h0 => by cases h0) (fun _ => ?_)
      have h1 := gTake_len _ _ _ _ hL'
      have h2 := gTake_mem _ _ _ _ hL'
      have hall : gLogIsStore P R L = match gTakeAll L' L with | none => false | some b => decide (b.length = 0) := by unfold gLogIsStore; rw [← hj]; dsimp only; rw [hL']
      rw [hall] at hK
      clear hall
      have k3 := kp2.trans kp3
      refine loop84_2 (γ := Nat × List (List Int)) (fun g t6 ba bn bc i m' => i = g.1 ∧ g.1 ≤ L.length ∧ m'.Ok ∧ Kp [] m m' ∧ OwnII m' ba bn bc g.2 ∧ g.2.length < 2 ^ 32 ∧ (∀ l ∈ g.2, l.length < 2 ^ 36) ∧ gTakeAll g.2 (L.drop g.1) = gTakeAll L' L) (fun g _ _ _ _ _ => L.length - g.1) (0, L')
        ⟨rfl, by omega, ok3, k3, own3, by simp at h1 ⊢; omega, fun l hl => (h2 l hl).elim (fun h => by cases h) (hsm l), by simp⟩ ?_
      rintro ⟨k, bag⟩ t6 ba bn bc i m4 ⟨rfl, hk, ok4, kp4, own4, hlen4, hsm4, hj4⟩
      dsimp only at hk own4 hlen4 hsm4 hj4 ⊢
      unfold s84_2
      refine ifB_lt (fun hlt => ?_) (fun hlt => ?_)
      · have hkl : k < L.length := by omega
        rw [drop_cons hkl []] at hj4
        simp only [gTakeAll] at hj4
        refine (hL.keep0 kp4).getL (by omega) (by omega) fun _ _ _ ai ni ci hi => ?_
        simp only [Int.toNat_natCast] at hi
        refine take_spec own4 hi.sl ⟨by omega, hsm4⟩ (sL.at k) ?_ ?_
        · intro hn
          refine ⟨_, _, _, _, rfl, ?_⟩
          with_reducible refine ifB_not (fun _ => ?_) (fun h0 => by cases h0)
          rw [e84_2r]
          rw [hn] at hj4
          rw [← hj4] at hK
          exact hK _ ok4 kp4
        · intro L2 a5 n5 c5 m5 hL2 ok5 kp5 own5 in5
          refine ⟨_, _, _, _, rfl, ?_⟩
          with_reducible refine ifB_not (fun h0 => by cases h0) (fun _ => ?_)
          rw [hL2] at hj4
          have h1 := gTake_len _ _ _ _ hL2
          have h2 := gTake_mem _ _ _ _ hL2
          refine ⟨(k + 1, L2), _, _, _, _, _, rfl, ⟨wrapS k (by omega), by dsimp only; omega, ok5, kp4.trans kp5, own5, ?_, ?_, hj4⟩, by dsimp only; omega⟩
          · simp at h1 ⊢; omega
          · exact fun l hl => (h2 l hl).elim (fun h => by cases h) (hsm4 l)
      · rw [e84_2x2]
        have : k = L.length := by omega
        subst this
        rw [List.drop_length] at hj4
        simp only [gTakeAll] at hj4
        rw [← hj4] at hK
        have e5 := own4.len
        unfold s84_2x2
        have : ((bn : Int) == 0) = decide (bag.length = 0) := by
          rw [e5]
          by_cases h0 : bag.length = 0 <;> simp [h0]
        rw [this]
        exact hK _ ok4 kp4

def gNorm (row : List Int) : Nat → Int → List Int → Option (List Int)
  | 0, _, out => some out
  | n + 1, v, out =>
    if row.any (· == v) = true ∧ row.any (· == -v) = true then none
    else gNorm row n (v + 1) ((if row.any (· == v) = true then out ++ [v] else out) ++ (if row.any (· == -v) = true then [-v] else []))
theorem norm_spec {a : Option Addr} {n c : Nat} {l : List Int} {r : Option (List Int)} {K : Value → Mem → Prop} {m : Mem} (h : SlI m a n l) (hl : l.length < 2 ^ 36) (hr : gNorm l 12 1 [] = r)
    (hK0 : ∀ m', r = none → m'.Ok → Kp [] m m' → K (.tuple #[.slice none 0 0, .bool false]) m')
    (hK1 : ∀ out a' n' c' m', r = some out → m'.Ok → Kp [] m m' → OwnI m' a' n' c' out → InS [] m (blkOf a') → out.length ≤ 24 → K (.tuple #[.slice a' n' c', .bool true]) m') :
    callOK Tryz.prog W0 130 [.slice a n c] K m := by
  refine callOK_ok fun ok => call130 ?_
  have e1 := h.len
  unfold s130
  refine loop130_1 (γ := Nat × List Int) (fun g ta tl tc t3 oa on oc v m' => v = ((13 - g.1 : Nat) : Int) ∧ g.1 ≤ 12 ∧ m'.Ok ∧ Kp [] m m' ∧ OwnI m' oa on oc g.2 ∧ InS [] m (blkOf oa) ∧ g.2.length ≤ 2 * (12 - g.1) ∧ gNorm l g.1 v g.2 = r) (fun g _ _ _ _ _ _ _ _ => g.1) (12, [])
    ⟨rfl, by omega, ok, Kp.refl _ _, Elt.own.nil m, InS.nil _ _, by simp, hr⟩ ?_
  rintro ⟨k, out⟩ ta tl tc t3 oa on oc v m1 ⟨hv, hk, ok1, kp1, own1, in1, hlen, hj⟩
  dsimp only at hv hk own1 hlen hj ⊢
  have eo := own1.len
  unfold s130_1
  refine ifB_le (fun hlt => ?_) (fun hlt => ?_)
  · obtain ⟨k, rfl⟩ : ∃ k', k = k' + 1 := ⟨k - 1, by omega⟩
    simp only [gNorm] at hj
    have hv1 : 1 ≤ v ∧ v ≤ 12 := by omega
    refine in_spec (h.keep0 kp1) (by omega) ⟨_, rfl, ?_⟩
    rw [wrap_neg (by unfold LitB; omega)]
    refine in_spec (h.keep0 kp1) (by omega) ⟨_, rfl, ?_⟩
    have hw : IntKind.wrap .i64 (v + 1) = v + 1 := wrap_i64 (by omega) (by omega)
    rw [hw]
    refine ifB_of (fun h1 => ?_) (fun h1 => ?_)
    · refine ifB_of (fun h2 => ?_) (fun h2 => ?_)
      · rw [if_pos ⟨h1, h2⟩] at hj
        rw [e130_1r]
        exact hK0 _ hj.symm ok1 kp1
      · rw [if_neg (by rw [h2]; simp), h1, h2, if_pos rfl, if_neg (by decide), List.append_nil] at hj
        rw [h1]
        refine Elt.app1 (E := EI) ok1 own1 (x := v) rfl rfl rfl (by omega) (by omega) ?_
        intro a2 c2 m2 ok2 kp2 own2 in2
        refine ifB_of (fun h3 => by rw [h2] at h3; cases h3) (fun _ => ?_)
        exact ⟨(k, out ++ [v]), _, _, _, _, _, _, _, _, rfl, ⟨by dsimp only; omega, by dsimp only; omega, ok2, kp1.step kp2 ok in1, own2, in1.trans in2 kp1.top, by simp; omega, hj⟩, by dsimp only; omega⟩
    · rw [h1] at hj ⊢
      refine ifB_of (fun h3 => by cases h3) (fun _ => ?_)
      refine ifB_of (fun h2 => ?_) (fun h2 => ?_)
      · rw [if_neg (by simp), h2, if_neg (by decide), if_pos rfl] at hj
        refine Elt.app1 (E := EI) ok1 own1 (x := -v) rfl rfl rfl (by omega) (by omega) ?_
        intro a2 c2 m2 ok2 kp2 own2 in2
        exact ⟨(k, out ++ [-v]), _, _, _, _, _, _, _, _, rfl, ⟨by dsimp only; omega, by dsimp only; omega, ok2, kp1.step kp2 ok in1, own2, in1.trans in2 kp1.top, by simp; omega, hj⟩, by dsimp only; omega⟩
      · rw [if_neg (by simp), h2, if_neg (by decide), if_neg (by decide), List.append_nil] at hj
        exact ⟨(k, out), _, _, _, _, _, _, _, _, rfl, ⟨by dsimp only; omega, by dsimp only; omega, ok1, kp1, own1, in1, by dsimp only; omega, hj⟩, by dsimp only; omega⟩
  · rw [e130_1x0]
    have : k = 0 := by omega
    subst this
    simp only [gNorm] at hj
    exact hK1 _ _ _ _ _ hj.symm ok1 kp1 own1 in1 (by omega)
end Go.Proofs.Qxb6500974aGreat
