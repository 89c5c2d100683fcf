import Derived.Test.Qxb6500974aGreatM2
set_option linter.all false
set_option linter.unusedSimpArgs false
set_option linter.unusedVariables false
namespace Go.Proofs.Qxb6500974aGreat
open Go.Eng
variable {W0 : World}

def gNext (cs : List (List Int)) : Nat → Int → Int
  | 0, _ => 0
  | n + 1, u => if cs.any (fun c => gVal u c != 0) then u else gNext cs n (u + 1)
theorem next_spec {a : Option Addr} {n c : Nat} {L : List (List Int)} {v r : Int} {K : Value → Mem → Prop} {m : Mem} (h : SlII m a n L) (hs : Small L) (hv : 0 ≤ v ∧ v ≤ 12) (hr : gNext L (12 - v).toNat (v + 1) = r)
    (hK : K (.int .i64 r) m) : callOK Tryz.prog W0 148 [.slice a n c, .int .i64 v] K m := by
  refine call148 ?_
  have e1 := h.len
  have hb := hs.1
  unfold s148
  rw [wrap_i64 (by omega) (by omega)]
  refine loop148_1 (γ := Nat) (fun k t u m' => m' = m ∧ (1 ≤ u ∧ u ≤ 13 ∧ k = (13 - u).toNat) ∧ gNext L k u = r) (fun k _ _ => k) (12 - v).toNat ⟨rfl, by omega, hr⟩ ?_
  rintro k t u m' ⟨rfl, hu, hj⟩
  unfold s148_1
  refine ifB_le (fun hlt => ?_) (fun hlt => ?_)
  · have ek : k = (k - 1) + 1 := by omega
    rw [ek] at hj
    simp only [gNext] at hj
    refine loop148_2 (γ := Nat) (fun q t i m1 => m1 = m' ∧ i = q ∧ q ≤ L.length ∧ (L.drop q).any (fun c => gVal u c != 0) = L.any (fun c => gVal u c != 0)) (fun q _ _ => L.length - q) 0 ⟨rfl, rfl, by omega, rfl⟩ ?_
    rintro q t i m1 ⟨rfl, rfl, hq, hj2⟩
    unfold s148_2
    refine ifB_lt (fun hlt2 => ?_) (fun hlt2 => ?_)
    · have hql : q < L.length := by omega
      refine h.getL (by omega) (by omega) fun _ _ _ ai ni ci hi => ?_
      simp only [Int.toNat_natCast] at hi
      rw [drop_cons hql [], List.any_cons] at hj2
      refine val_spec hi.sl (by have := hs.at q; omega) (by omega) ⟨_, rfl, ?_⟩
      refine ifB_ne (fun he => ?_) (fun he => ?_)
      · rw [e148_2r]
        have h2 : (gVal u (L.getD q []) != 0) = true := by simpa using he
        rw [h2, Bool.true_or] at hj2
        rw [← hj2] at hj
        unfold s148_2r
        rw [e148_1r]
        have hj : u = r := hj
        subst hj; exact hK
      · have h2 : (gVal u (L.getD q []) != 0) = false := by simpa using he
        rw [h2, Bool.false_or] at hj2
        exact ⟨q + 1, _, _, rfl, ⟨rfl, wrapS q (by omega), by omega, hj2⟩, by omega⟩
    · rw [e148_2x2]
      have : q = L.length := by omega
      subst this
      rw [List.drop_length, List.any_nil] at hj2
      rw [← hj2] at hj
      have hj : gNext L (k - 1) (u + 1) = r := hj
      refine ⟨k - 1, _, _, rfl, ⟨rfl, ?_, ?_⟩, by omega⟩
      · rw [wrap_i64 (by omega) (by omega)]; omega
      · rw [wrap_i64 (by omega) (by omega)]; exact hj
  · rw [e148_1x0]
    have : k = 0 := by omega
    subst this
    simp only [gNext] at hj
    subst hj; exact hK

def AllB (l : List Int) : Prop := ∀ x ∈ l, LitB x
theorem AllB.at {l : List Int} (h : AllB l) {k : Nat} (hk : k < l.length) : LitB (l.getD k 0) := h _ (by simp [List.getD, hk])
theorem take_succ_getD {α : Type} {l : List α} {k : Nat} (h : k < l.length) (d : α) : l.take (k + 1) = l.take k ++ [l.getD k d] := by
  rw [List.take_add_one]; simp [List.getD, h]
theorem wrap_neg {x : Int} (h : LitB x) : IntKind.wrap .i64 (0 - x) = -x := by
  unfold LitB at h
  rw [wrap_i64 (by omega) (by omega)]; omega
theorem deny_spec {a : Option Addr} {n c : Nat} {l : List Int} {K : Value → Mem → Prop} {m : Mem} (h : SlI m a n l) (hl : l.length < 2 ^ 36) (hb : AllB l)
    (hK : ∀ a' c' m', m'.Ok → Kp [] m m' → OwnI m' a' n c' (l.map fun x => -x) → InS [] m (blkOf a') → K (.slice a' n c') m') : callOK Tryz.prog W0 147 [.slice a n c] K m := by
  refine callOK_ok fun ok => call147 ?_
  have e1 := h.len
  unfold s147
  refine loop147_1 (γ := Nat) (fun k a' n' c' i m' => i = k ∧ k ≤ l.length ∧ m'.Ok ∧ Kp [] m m' ∧ OwnI m' a' n' c' ((l.take k).map fun x => -x) ∧ InS [] m (blkOf a')) (fun k _ _ _ _ => l.length - k) 0
    ⟨rfl, by omega, ok, Kp.refl _ _, by simpa using Elt.own.nil m, InS.nil _ _⟩ ?_
  rintro k a' n' c' i m' ⟨rfl, hk, ok', kp, own, ins⟩
  unfold s147_1
  have en := own.len
  simp only [List.length_map, List.length_take] at en
  refine ifB_lt (fun hlt => ?_) (fun hlt => ?_)
  · have hkl : k < l.length := by omega
    refine (h.keep0 kp).get (by omega) (by omega) fun _ _ _ => ?_
    simp only [Int.toNat_natCast]
    rw [wrap_neg (hb.at hkl)]
    refine Elt.app1 (E := EI) ok' own (x := -(l.getD k 0)) rfl rfl rfl (by omega) (by omega) ?_
    intro a2 c2 m2 ok2 kp2 own2 ins2
    refine ⟨k + 1, _, _, _, _, rfl, ⟨wrapS k (by omega), by omega, ok2, kp.step kp2 ok ins, ?_, ins.trans ins2 kp.top⟩, by omega⟩
    rw [take_succ_getD hkl 0, List.map_append]
    exact own2
  · rw [e147_1x0]
    have : k = l.length := by omega
    subst this
    rw [List.take_length] at own
    have : n' = n := by omega
    subst this
    exact hK _ _ _ ok' kp own ins

def gSweep : List (List Int) → List Int → Bool → List Int × Bool × Bool
  | [], out, g => (out, g, false)
  | c :: cs, out, g => if (gState out c 0 0).1 = -1 then (out, g, true) else if (gState out c 0 0).1 = 0 then gSweep cs (out ++ [(gState out c 0 0).2]) true else gSweep cs out g
def gClosure (cs : List (List Int)) : Nat → List Int → List Int × Bool
  | 0, out => (out, false)
  | n + 1, out => if (gSweep cs out false).2.2 = true then ((gSweep cs out false).1, true) else if (gSweep cs out false).2.1 = false then ((gSweep cs out false).1, false) else gClosure cs n (gSweep cs out false).1
def gRup (cs : List (List Int)) (c : List Int) : Bool := (gClosure cs 13 (c.map fun x => -x)).2
theorem gSweep_len : ∀ (cs : List (List Int)) (out : List Int) (g : Bool), (gSweep cs out g).1.length ≤ out.length + cs.length
  | [], out, g => by simp [gSweep]
  | c :: cs, out, g => by
    simp only [gSweep]
    repeat' split
    · simp
    · have := gSweep_len cs (out ++ [(gState out c 0 0).2]) true
      simp only [List.length_append, List.length_cons, List.length_nil] at this ⊢
      omega
    · have := gSweep_len cs out g
      simp only [List.length_cons]
      omega
def SmallB (L : List (List Int)) : Prop := Small L ∧ ∀ l ∈ L, AllB l
theorem SmallB.at {L : List (List Int)} (h : SmallB L) (k : Nat) : AllB (L.getD k []) := by
  by_cases hi : k < L.length
  · have : L.getD k [] = L[k] := by simp [List.getD, hi]
    rw [this]; exact h.2 _ (List.getElem_mem hi)
  · simp [List.getD, List.getElem?_eq_none (Nat.le_of_not_lt hi), AllB]
theorem closure_spec {a a' : Option Addr} {n c n' c' : Nat} {L : List (List Int)} {on : List Int} {r : List Int × Bool} {K : Value → Mem → Prop} {m : Mem} (h : SlII m a n L) (h' : SlI m a' n' on) (hs : SmallB L) (hon : on.length < 2 ^ 36)
    (hr : gClosure L 13 on = r) (hK : ∀ a1 n1 c1 m', m'.Ok → Kp [] m m' → OwnI m' a1 n1 c1 r.1 → InS [] m (blkOf a1) → K (.tuple #[.slice a1 n1 c1, .bool r.2]) m') :
    callOK Tryz.prog W0 151 [.slice a n c, .slice a' n' c'] K m := by
  refine callOK_ok fun ok => call151 ?_
  have e1 := h.len
  have hb := hs.1.1
  unfold s151
  refine copyInts_spec h' (by omega) ?_
  intro a0 m0 ok0 kp0 own0 ins0 _
  refine ⟨_, _, _, rfl, ?_⟩
  refine loop151_1 (γ := Nat × List Int) (fun k ta tl tc t5 oa ol oc rd m' => rd = ((13 - k.1 : Nat) : Int) ∧ k.1 ≤ 13 ∧ m'.Ok ∧ Kp [] m m' ∧ OwnI m' oa ol oc k.2 ∧ InS [] m (blkOf oa) ∧ k.2.length ≤ on.length + (13 - k.1) * L.length ∧ gClosure L k.1 k.2 = r) (fun k _ _ _ _ _ _ _ _ => k.1) (13, on)
    ⟨rfl, by omega, ok0, kp0, own0, ins0, by simp, hr⟩ ?_
  rintro ⟨k, out⟩ ta tl tc t5 oa ol oc rd m1 ⟨rfl, hk, ok1, kp1, own1, ins1, hlen, hj⟩
  dsimp only at hk own1 hlen hj ⊢
  unfold s151_1
  refine ifB_le (fun hlt => ?_) (fun hlt => ?_)
  · obtain ⟨k, rfl⟩ : ∃ k', k = k' + 1 := ⟨k - 1, by omega⟩
    simp only [gClosure] at hj
    obtain ⟨q, hq⟩ : ∃ q, gSweep L out false = q := ⟨_, rfl⟩
    have hql := gSweep_len L out false
    rw [hq] at hj hql
    have hmul : (13 - k) * L.length = (13 - (k + 1)) * L.length + L.length := by rw [show 13 - k = (13 - (k + 1)) + 1 by omega, Nat.add_mul]; omega
    have hmul2 : (13 - (k + 1)) * L.length ≤ 13 * L.length := Nat.mul_le_mul_right _ (by omega)
    refine loop151_2 (γ := Nat × List Int) (fun i ta tl tc t5 oa ol oc g8 i9 m' => i9 = i.1 ∧ i.1 ≤ L.length ∧ m'.Ok ∧ Kp [] m m' ∧ OwnI m' oa ol oc i.2 ∧ InS [] m (blkOf oa) ∧ i.2.length ≤ out.length + i.1 ∧ gSweep (L.drop i.1) i.2 g8 = q) (fun i _ _ _ _ _ _ _ _ _ => L.length - i.1) (0, out)
      ⟨rfl, by omega, ok1, kp1, own1, ins1, by simp, hq⟩ ?_
    rintro ⟨i, o2⟩ ta tl tc t5 oa ol oc g8 i9 m2 ⟨rfl, hi, ok2, kp2, own2, ins2, hlen2, hj2⟩
    dsimp only at hi own2 hlen2 hj2 ⊢
    unfold s151_2
    refine ifB_lt (fun hlt2 => ?_) (fun hlt2 => ?_)
    · have hil : i < L.length := by omega
      refine (h.keep0 kp2).getL (by omega) (by omega) fun _ _ _ ai ni ci hf => ?_
      simp only [Int.toNat_natCast] at hf
      rw [drop_cons hil []] at hj2
      simp only [gSweep] at hj2
      refine state_spec hf.sl own2.sl (by have := hs.1.at i; omega) (by omega) (hs.at i) rfl ⟨_, _, rfl, ?_⟩
      refine ifB_eq (fun he => ?_) (fun he => ?_)
      · rw [if_pos he] at hj2
        rw [e151_2r]
        unfold s151_2r
        rw [e151_1r]
        subst hj2
        rw [if_pos rfl] at hj
        subst hj
        exact hK _ _ _ _ ok2 kp2 own2 ins2
      · rw [if_neg he] at hj2
        refine ifB_eq (fun he => ?_) (fun he => ?_)
        · rw [if_pos he] at hj2
          have en := own2.len
          refine Elt.app1 (E := EI) ok2 own2 (x := (gState o2 (L.getD i []) 0 0).2) rfl rfl rfl (by omega) (by omega) ?_
          intro a3 c3 m3 ok3 kp3 own3 ins3
          refine ⟨(i + 1, _), _, _, _, _, _, _, _, _, _, rfl, ⟨wrapS i (by omega), by omega, ok3, kp2.step kp3 ok ins2, own3, ins2.trans ins3 kp2.top, by simp; omega, hj2⟩, by dsimp only; omega⟩
        · rw [if_neg he] at hj2
          exact ⟨(i + 1, _), _, _, _, _, _, _, _, _, _, rfl, ⟨wrapS i (by omega), by omega, ok2, kp2, own2, ins2, by dsimp only; omega, hj2⟩, by dsimp only; omega⟩
    · rw [e151_2x2]
      have : i = L.length := by omega
      subst this
      rw [List.drop_length] at hj2
      simp only [gSweep] at hj2
      subst hj2
      rw [if_neg (by simp)] at hj
      unfold s151_2x2
      refine ifB_not (fun he => ?_) (fun he => ?_)
      · rw [if_pos he] at hj
        rw [e151_1r]
        subst hj
        exact hK _ _ _ _ ok2 kp2 own2 ins2
      · rw [if_neg (by simp [he])] at hj
        refine ⟨(k, o2), _, _, _, _, _, _, _, _, rfl, ⟨?_, by dsimp only; omega, ok2, kp2, own2, ins2, ?_, hj⟩, by dsimp only; omega⟩
        · dsimp only
          rw [wrap_i64 (by omega) (by omega)]; omega
        · dsimp only at hlen2 ⊢
          omega
  · rw [e151_1x0]
    have : k = 0 := by omega
    subst this
    simp only [gClosure] at hj
    subst hj
    exact hK _ _ _ _ ok1 kp1 own1 ins1
theorem rup_spec {a a' : Option Addr} {n c n' c' : Nat} {L : List (List Int)} {l : List Int} {K : Value → Mem → Prop} {m : Mem} (h : SlII m a n L) (h' : SlI m a' n' l) (hs : SmallB L) (hl : l.length < 2 ^ 36) (hb : AllB l)
    (hK : ∀ m', m'.Ok → Kp [] m m' → K (.bool (gRup L l)) m') : callOK Tryz.prog W0 133 [.slice a n c, .slice a' n' c'] K m := by
  refine callOK_ok fun ok => call133 ?_
  have e1 := h'.len
  unfold s133
  refine loop133_1 (γ := Nat) (fun k a1 n1 c1 i m' => i = k ∧ k ≤ l.length ∧ m'.Ok ∧ Kp [] m m' ∧ OwnI m' a1 n1 c1 ((l.take k).map fun x => -x) ∧ InS [] m (blkOf a1)) (fun k _ _ _ _ => l.length - k) 0
    ⟨rfl, by omega, ok, Kp.refl _ _, by simpa using Elt.own.nil m, InS.nil _ _⟩ ?_
  rintro k a1 n1 c1 i m' ⟨rfl, hk, ok', kp, own, ins⟩
  unfold s133_1
  have en := own.len
  simp only [List.length_map, List.length_take] at en
  refine ifB_lt (fun hlt => ?_) (fun hlt => ?_)
  · have hkl : k < l.length := by omega
    refine (h'.keep0 kp).get (by omega) (by omega) fun _ _ _ => ?_
    simp only [Int.toNat_natCast]
    rw [wrap_neg (hb.at hkl)]
    refine Elt.app1 (E := EI) ok' own (x := -(l.getD k 0)) rfl rfl rfl (by omega) (by omega) ?_
    intro a2 c2 m2 ok2 kp2 own2 ins2
    refine ⟨k + 1, _, _, _, _, rfl, ⟨wrapS k (by omega), by omega, ok2, kp.step kp2 ok ins, ?_, ins.trans ins2 kp.top⟩, by omega⟩
    rw [take_succ_getD hkl 0, List.map_append]
    exact own2
  · rw [e133_1x0]
    have : k = l.length := by omega
    subst this
    rw [List.take_length] at own
    unfold s133_1x0
    refine closure_spec (h.keep0 kp) own.sl hs (by simp; omega) rfl ?_
    intro a3 n3 c3 m3 ok3 kp3 _ _
    exact ⟨_, _, _, _, rfl, hK _ ok3 (kp.trans kp3)⟩
end Go.Proofs.Qxb6500974aGreat
