import Derived.Test.Qxb6500974aGreatLib2
import Derived.Test.Qxb6500974aGreatS0
import Derived.Test.Qxb6500974aGreatS1
import Derived.Test.Qxb6500974aGreatS2
import Derived.Test.Qxb6500974aGreatS3
import Derived.Test.Qxb6500974aGreatS4
import Derived.Test.Qxb6500974aGreatS5
import Derived.Test.Qxb6500974aGreatS6
import Derived.Test.Qxb6500974aGreatS7
set_option linter.all false
set_option linter.unusedSimpArgs false
set_option linter.unusedVariables false
namespace Go.Proofs.Qxb6500974aGreat
open Go.Eng
variable {W0 : World}

theorem sameInts_spec {a0a b1a : Option Addr} {a0l a0c b1l b1c : Nat} {l1 l2 : List Int} {K : Value → Mem → Prop} {m : Mem}
    (h1 : SlI m a0a a0l l1) (h2 : SlI m b1a b1l l2) (hb : l1.length < 2 ^ 62) (hK : K (.bool (decide (l1 = l2))) m) :
    callOK Tryz.prog W0 18 [.slice a0a a0l a0c, .slice b1a b1l b1c] K m := by
  refine call18 ?_
  have e1 := h1.len; have e2 := h2.len
  unfold s18
  refine ifB_ne (fun h => ?_) (fun h => ?_)
  · have : l1 ≠ l2 := by intro h0; subst h0; omega
    simpa [this] using hK
  · refine loop18_1 (γ := Nat) (fun k t i m' => m' = m ∧ i = k ∧ k ≤ l1.length ∧ ∀ j, j < k → l1.getD j 0 = l2.getD j 0) (fun k _ _ => l1.length - k) 0 ⟨rfl, rfl, by omega, by omega⟩ ?_
    rintro k t i m' ⟨rfl, rfl, hk, hj⟩
    unfold s18_1
    refine ifB_dec (fun hlt => ?_) (fun hlt => ?_)
    · refine h1.get (by omega) (by omega) fun _ _ _ => ?_
      refine h2.get (by omega) (by omega) fun _ _ _ => ?_
      simp only [Int.toNat_natCast]
      refine ifB_ne (fun hne => ?_) (fun he => ?_)
      · rw [e18_1r]
        have : l1 ≠ l2 := by intro h0; subst h0; exact hne rfl
        simpa [s18_1r, this] using hK
      · refine ⟨k + 1, t, _, rfl, ⟨rfl, ?_, by omega, ?_⟩, by omega⟩
        · rw [wrap_i64 (by omega) (by omega)]; omega
        · intro j hj'
          by_cases h0 : j = k
          · subst h0; exact he
          · exact hj j (by omega)
    · rw [e18_1x0]
      have : l1 = l2 := by
        apply List.ext_getElem (by omega)
        intro j hj1 hj2
        have := hj j (by omega)
        simpa [List.getD, hj1, hj2] using this
      simpa [s18_1x0, this] using hK

def gVal (l : Int) : List Int → Int
  | [] => 0
  | x :: xs => if x = l then 1 else if x = -l then -1 else gVal l xs
theorem gVal_take (l : Int) (on : List Int) (k : Nat) (hk : k < on.length) (h : gVal l (on.drop k) = gVal l on) (h1 : on.getD k 0 ≠ l) (h2 : on.getD k 0 ≠ -l) : gVal l (on.drop (k + 1)) = gVal l on := by
  rw [← h, List.drop_eq_getElem_cons hk]
  have e : on.getD k 0 = on[k] := by simp [List.getD, hk]
  rw [e] at h1 h2
  simp [gVal, h1, h2]
theorem val_spec {l : Int} {a : Option Addr} {n c : Nat} {on : List Int} {K : Value → Mem → Prop} {m : Mem} (h : SlI m a n on) (hb : on.length < 2 ^ 62) (hl : -9223372036854775808 < l ∧ l < 9223372036854775808)
    (hK : K (.int .i64 (gVal l on)) m) : callOK Tryz.prog W0 155 [.int .i64 l, .slice a n c] K m := by
  refine call155 ?_
  have e1 := h.len
  unfold s155
  refine loop155_1 (γ := Nat) (fun k t i m' => m' = m ∧ i = k ∧ k ≤ on.length ∧ gVal l (on.drop k) = gVal l on) (fun k _ _ => on.length - k) 0 ⟨rfl, rfl, by omega, rfl⟩ ?_
  rintro k t i m' ⟨rfl, rfl, hk, hj⟩
  unfold s155_1
  refine ifB_dec (fun hlt => ?_) (fun hlt => ?_)
  · have hkl : k < on.length := by omega
    have e : on.getD k 0 = on[k] := by simp [List.getD, hkl]
    refine h.get (by omega) (by omega) fun _ _ _ => ?_
    simp only [Int.toNat_natCast]
    refine ifB_eq (fun he => ?_) (fun hne => ?_)
    · rw [e155_1r]
      rw [List.drop_eq_getElem_cons hkl, ← e, he] at hj
      simp [gVal] at hj
      simpa [s155_1r, hj] using hK
    · refine h.get (by omega) (by omega) fun _ _ _ => ?_
      simp only [Int.toNat_natCast]
      rw [wrap_i64 (by omega) (by omega)]
      refine ifB_eq (fun he => ?_) (fun hne2 => ?_)
      · rw [e155_1r]
        rw [List.drop_eq_getElem_cons hkl, ← e] at hj
        simp only [gVal, if_neg hne] at hj
        rw [if_pos (by omega)] at hj
        rw [← hj] at hK
        exact hK
      · refine ⟨k + 1, t, _, rfl, ⟨rfl, ?_, by omega, gVal_take l on k hkl hj hne (by omega)⟩, by omega⟩
        rw [wrap_i64 (by omega) (by omega)]; omega
  · rw [e155_1x0]
    have : k = on.length := by omega
    subst this
    rw [List.drop_length] at hj
    simp only [gVal] at hj
    rw [← hj] at hK
    exact hK

def gHolds (c : List Int) (mask : Int) : Bool := c.any fun l => goTrue l mask
theorem any_drop {p : Int → Bool} (l : List Int) (k : Nat) (hk : k < l.length) (h : (l.drop k).any p = l.any p) (h1 : p (l.getD k 0) = false) : (l.drop (k + 1)).any p = l.any p := by
  have e : l.getD k 0 = l[k] := by simp [List.getD, hk]
  rw [e] at h1
  rw [List.drop_eq_getElem_cons hk, List.any_cons, h1, Bool.false_or] at h
  exact h
theorem any_hit {p : Int → Bool} (l : List Int) (k : Nat) (hk : k < l.length) (h1 : p (l.getD k 0) = true) : l.any p = true := by
  rw [List.any_eq_true]
  have e : l.getD k 0 = l[k] := by simp [List.getD, hk]
  exact ⟨l[k], List.getElem_mem hk, by rw [← e]; exact h1⟩
theorem holds_spec {a : Option Addr} {n c : Nat} {l : List Int} {mask : Int} {K : Value → Mem → Prop} {m : Mem} (h : SlI m a n l) (hb : l.length < 2 ^ 62)
    (hK : K (.bool (gHolds l mask)) m) : callOK Tryz.prog W0 126 [.slice a n c, .int .i64 mask] K m := by
  refine call126 ?_
  have e1 := h.len
  unfold s126
  refine loop126_1 (γ := Nat) (fun k t i m' => m' = m ∧ i = k ∧ k ≤ l.length ∧ (l.drop k).any (fun l => goTrue l mask) = gHolds l mask) (fun k _ _ => l.length - k) 0 ⟨rfl, rfl, by omega, rfl⟩ ?_
  rintro k t i m' ⟨rfl, rfl, hk, hj⟩
  unfold s126_1
  refine ifB_dec (fun hlt => ?_) (fun hlt => ?_)
  · have hkl : k < l.length := by omega
    refine h.get (by omega) (by omega) fun _ _ _ => ?_
    simp only [Int.toNat_natCast]
    refine ifB_of (fun he => ?_) (fun hne => ?_)
    · rw [e126_1r]
      have : gHolds l mask = true := any_hit l k hkl he
      simpa [s126_1r, this] using hK
    · refine ⟨k + 1, t, _, rfl, ⟨rfl, ?_, by omega, any_drop l k hkl hj hne⟩, by omega⟩
      rw [wrap_i64 (by omega) (by omega)]; omega
  · rw [e126_1x0]
    have : k = l.length := by omega
    subst this
    rw [List.drop_length] at hj
    simp only [List.any_nil] at hj
    rw [← hj] at hK
    exact hK

def Small (L : List (List Int)) : Prop := L.length < 2 ^ 36 ∧ ∀ l ∈ L, l.length < 2 ^ 36
theorem Small.at {L : List (List Int)} (h : Small L) (i : Nat) : (L.getD i []).length < 2 ^ 36 := by
  by_cases hi : i < L.length
  · have : L.getD i [] = L[i] := by simp [List.getD, hi]
    rw [this]; exact h.2 _ (List.getElem_mem hi)
  · simp [List.getD, List.getElem?_eq_none (Nat.le_of_not_lt hi)]

def gAll (L : List (List Int)) (mask : Int) : Bool := L.all fun c => gHolds c mask
theorem allHold_spec {a : Option Addr} {n c : Nat} {L : List (List Int)} {mask : Int} {K : Value → Mem → Prop} {m : Mem} (h : SlII m a n L) (hs : Small L)
    (hK : K (.bool (gAll L mask)) m) : callOK Tryz.prog W0 77 [.slice a n c, .int .i64 mask] K m := by
  refine call77 ?_
  have e1 := h.len
  have hb := hs.1
  unfold s77
  refine loop77_1 (γ := Nat) (fun k t i m' => m' = m ∧ i = k ∧ k ≤ L.length ∧ (L.drop k).all (fun c => gHolds c mask) = gAll L mask) (fun k _ _ => L.length - k) 0 ⟨rfl, rfl, by omega, rfl⟩ ?_
  rintro k t i m' ⟨rfl, rfl, hk, hj⟩
  unfold s77_1
  refine ifB_dec (fun hlt => ?_) (fun hlt => ?_)
  · have hkl : k < L.length := by omega
    have e : L.getD k [] = L[k] := by simp [List.getD, hkl]
    refine h.getL (by omega) (by omega) fun _ _ _ ai ni ci hi => ?_
    simp only [Int.toNat_natCast] at hi
    refine holds_spec hi.sl (by have := hs.at k; omega) ⟨_, rfl, ?_⟩
    rw [List.drop_eq_getElem_cons hkl, ← e] at hj
    refine ifB_not (fun he => ?_) (fun he => ?_)
    · rw [e77_1r]
      simp only [List.all_cons, he, Bool.false_and] at hj
      rw [← hj] at hK
      exact hK
    · simp only [List.all_cons, he, Bool.true_and] at hj
      refine ⟨k + 1, t, _, rfl, ⟨rfl, ?_, by omega, hj⟩, by omega⟩
      rw [wrap_i64 (by omega) (by omega)]; omega
  · rw [e77_1x0]
    have : k = L.length := by omega
    subst this
    rw [List.drop_length] at hj
    simp only [List.all_nil] at hj
    rw [← hj] at hK
    exact hK

def gTable (L : List (List Int)) : Nat → Nat → Int
  | 0, _ => -1
  | n + 1, k => if gAll L k then k else gTable L n (k + 1)
theorem gTable_succ (L : List (List Int)) (n k : Nat) : gTable L (n + 1) k = if gAll L k then (k : Int) else gTable L n (k + 1) := rfl
theorem table_spec {a : Option Addr} {n c : Nat} {L : List (List Int)} {r : Int} {K : Value → Mem → Prop} {m : Mem} (h : SlII m a n L) (hs : Small L) (hr : gTable L 4096 0 = r)
    (hK : K (.int .i64 r) m) : callOK Tryz.prog W0 89 [.slice a n c] K m := by
  refine call89 ?_
  unfold s89
  obtain ⟨N, hN⟩ : ∃ N : Nat, N = 4096 := ⟨_, rfl⟩
  rw [← hN] at hr
  refine loop89_1 (γ := Nat) (fun k t i m' => m' = m ∧ i = k ∧ k ≤ N ∧ gTable L (N - k) k = r) (fun k _ _ => N - k) 0 ⟨rfl, rfl, by omega, hr⟩ ?_
  intro k t i m1 HH
  have e0 : m1 = m := HH.1
  have e1 : i = k := HH.2.1
  have hk := HH.2.2.1
  have hj := HH.2.2.2
  clear HH
  subst e0
  subst e1
  unfold s89_1
  with_reducible refine ifB_lt (fun hlt => ?_) (fun hlt => ?_)
  · have e : N - k = (N - (k + 1)) + 1 := by omega
    rw [e, gTable_succ] at hj
    refine allHold_spec h hs ⟨_, rfl, ?_⟩
    refine ifB_of (fun he => ?_) (fun he => ?_)
    · rw [e89_1r]
      rw [if_pos he] at hj
      rw [← hj] at hK
      exact hK
    · rw [if_neg (by simp [he])] at hj
      refine ⟨k + 1, t, _, rfl, ⟨rfl, ?_, by omega, hj⟩, by omega⟩
      rw [wrap_i64 (by omega) (by omega)]; omega
  · rw [e89_1x0]
    have : k = N := by omega
    subst this
    rw [Nat.sub_self] at hj
    have hj : (-1 : Int) = _ := hj
    rw [← hj] at hK
    exact hK

def gFollows (L : List (List Int)) (c : List Int) : Nat → Nat → Bool
  | 0, _ => true
  | n + 1, k => if gAll L k && !gHolds c k then false else gFollows L c n (k + 1)
theorem gFollows_succ (L : List (List Int)) (c : List Int) (n k : Nat) : gFollows L c (n + 1) k = if gAll L k && !gHolds c k then false else gFollows L c n (k + 1) := rfl
theorem follows_spec {a a' : Option Addr} {n c n' c' : Nat} {L : List (List Int)} {l : List Int} {r : Bool} {K : Value → Mem → Prop} {m : Mem} (h : SlII m a n L) (hs : Small L) (h' : SlI m a' n' l) (hl : l.length < 2 ^ 36) (hr : gFollows L l 4096 0 = r)
    (hK : K (.bool r) m) : callOK Tryz.prog W0 79 [.slice a n c, .slice a' n' c'] K m := by
  refine call79 ?_
  unfold s79
  obtain ⟨N, hN⟩ : ∃ N : Nat, N = 4096 := ⟨_, rfl⟩
  rw [← hN] at hr
  refine loop79_1 (γ := Nat) (fun k t i m' => m' = m ∧ i = k ∧ k ≤ N ∧ gFollows L l (N - k) k = r) (fun k _ _ => N - k) 0 ⟨rfl, rfl, by omega, hr⟩ ?_
  intro k t i m1 HH
  have e0 : m1 = m := HH.1
  have e1 : i = k := HH.2.1
  have hk := HH.2.2.1
  have hj := HH.2.2.2
  clear HH
  subst e0
  subst e1
  unfold s79_1
  with_reducible refine ifB_lt (fun hlt => ?_) (fun hlt => ?_)
  · have e : N - k = (N - (k + 1)) + 1 := by omega
    rw [e, gFollows_succ] at hj
    refine allHold_spec h hs ⟨_, rfl, ?_⟩
    refine ifB_of (fun he => ?_) (fun he => ?_)
    · refine holds_spec h' (by omega) ⟨_, rfl, ?_⟩
      refine ifB_not (fun he2 => ?_) (fun he2 => ?_)
      · rw [e79_1r]
        rw [if_pos (by simp [he, he2])] at hj
        rw [← hj] at hK
        exact hK
      · rw [if_neg (by simp [he, he2])] at hj
        refine ⟨k + 1, t, _, rfl, ⟨rfl, ?_, by omega, hj⟩, by omega⟩
        rw [wrap_i64 (by omega) (by omega)]; omega
    · rw [if_neg (by simp [he])] at hj
      refine ⟨k + 1, t, _, rfl, ⟨rfl, ?_, by omega, hj⟩, by omega⟩
      rw [wrap_i64 (by omega) (by omega)]; omega
  · rw [e79_1x0]
    have : k = N := by omega
    subst this
    rw [Nat.sub_self] at hj
    have hj : true = _ := hj
    rw [← hj] at hK
    exact hK
end Go.Proofs.Qxb6500974aGreat
