import Derived.Test.Qxb6500974aGreatM1
set_option linter.all false
set_option linter.unusedSimpArgs false
set_option linter.unusedVariables false
namespace Go.Proofs.Qxb6500974aGreat
open Go.Eng
variable {W0 : World}

theorem wrapS (k : Nat) (h : k < 2 ^ 62) : IntKind.wrap .i64 ((k : Int) + 1) = ((k + 1 : Nat) : Int) := by
  rw [wrap_i64 (by omega) (by omega)]; omega

theorem OwnI_of_fill {m : Mem} {b n : Nat} {f : Blk} {l : List Int} (hb : m.blk b = some f) (hw : f.wr = true) (hn : n = l.length) (hc : ∀ i x, l[i]? = some x → f.cell i = some (.int .i64 x)) : OwnI m (some ⟨b, 0, none⟩) n n l := by
  refine ⟨hn, l.map fun x => [.int .i64 x], ?_, ?_⟩
  · have hfl : (l.map fun x => [Value.int .i64 x]).flatten = l.map (Value.int .i64) := by
      clear hn hc
      induction l with
      | nil => rfl
      | cons x xs ih => simp [ih]
    rw [hfl]
    refine ⟨by simp [hn, EI], Nat.le_refl _, .inr ⟨b, f, rfl, hb, hw, ?_, ?_⟩⟩
    · intro i v hi
      rw [List.getElem?_map] at hi
      cases hl : l[i]? with
      | none => simp [hl] at hi
      | some x => simp [hl] at hi; subst hi; exact hc i x hl
    · intro i hi
      have : i < l.length := by simpa [EI, hn] using hi
      rw [hc i l[i] (by simp [this])]; rfl
  · clear hn hc
    induction l with
    | nil => trivial
    | cons x xs ih => exact ⟨rfl, ih⟩
theorem Elt.sl.rdI {m : Mem} {a : Option Addr} {n k : Nat} {l : List Int} (h : SlI m a n l) (hk : k = n) {K : List Value → Prop} (hK : K (l.map (Value.int .i64))) : rdRow m a k K := by
  obtain ⟨hn, h2⟩ := h
  subst hk; subst hn
  rcases h2 with ⟨rfl, hz⟩ | ⟨b, o, rfl, hr⟩
  · rcases hz with rfl | ⟨b, o, rfl⟩
    · exact ⟨rfl, hK⟩
    · exact ⟨[], rfl, trivial, hK⟩
  · refine ⟨_, by simp, row_of fun i v hi => ?_, hK⟩
    rw [List.getElem?_map] at hi
    cases hl : l[i]? with
    | none => simp [hl] at hi
    | some x =>
      simp [hl] at hi; subst hi
      obtain ⟨cs, rfl, h3⟩ := hr i x hl
      simpa [EI] using h3.1

theorem copyInts_spec {a : Option Addr} {n c : Nat} {l : List Int} {K : Value → Mem → Prop} {m : Mem} (h : SlI m a n l) (hl : l.length < 2 ^ 44)
    (hK : ∀ a' m', m'.Ok → Kp [] m m' → OwnI m' a' n n l → InS [] m (blkOf a') → (l = [] ↔ a' = none) → K (.slice a' n n) m') :
    callOK Tryz.prog W0 52 [.slice a n c] K m := by
  refine callOK_io fun ok => call52 ?_
  have e1 := h.len
  unfold s52
  refine ifB_eq (fun he => ?_) (fun hne => ?_)
  · intro ok'
    have : l = [] := List.eq_nil_of_length_eq_zero (by omega)
    subst this
    simp only [List.length_nil] at e1
    subst e1
    exact hK none m ok (Kp.refl _ _) (Elt.own.nil m) (InS.nil _ _) (by simp)
  · have hne' : l ≠ [] := by intro h0; subst h0; simp at e1; omega
    refine ⟨by omega, by omega, by omega, by omega, ?_⟩
    intro b hb
    have hkm := Kp.new (S := []) ok hb { wr := true, cell := rowsOf [(.int .i64 0)] (Int.toNat (n : Int)) }
    refine Elt.sl.rdI (h.keep0 hkm) (by simp [Nat.min_def]) ?_
    refine stL_of _ 0 _ _ _ (Mem.new_at _ _ _) rfl ?_ ?_ ?_ ?_
    · intro i hi
      simp only [List.length_map] at hi
      simp [rowsOf, e1, hi, Nat.mod_one]
    · intro v hv
      simp only [List.mem_map] at hv
      obtain ⟨x, _, rfl⟩ := hv
      rfl
    · intro ok'
      have hk2 : Kp [b] _ _ := Kp.setB (S := [b]) (Mem.new_at m b { wr := true, cell := rowsOf [(.int .i64 0)] (Int.toNat (n : Int)) }) rfl { wr := true, cell := fun j => if 0 ≤ j ∧ j < 0 + (l.map (Value.int .i64)).length then (l.map (Value.int .i64))[j - 0]? else rowsOf [(.int .i64 0)] (Int.toNat (n : Int)) j } (by simp)
      refine hK _ _ ok' (hkm.step hk2 ok (fun b' hb' => .inr (by simp at hb'; omega))) (OwnI_of_fill (Mem.setB_at _ _ _) rfl (by simpa using e1) ?_) (fun b' hb' => .inr (by simp [blkOf] at hb'; omega)) (by simp [hne'])
      intro i x hi
      have hlt : i < l.length := by
        rcases Nat.lt_or_ge i l.length with h' | h'
        · exact h'
        · simp [List.getElem?_eq_none h'] at hi
      simp only [List.length_map, Nat.zero_add, Nat.zero_le, true_and, Nat.sub_zero, if_pos hlt]
      rw [List.getElem?_map, hi]; rfl
    · intro h0
      simp at h0
      exact absurd h0 hne'

def gState (on : List Int) : List Int → Int → Int → Int × Int
  | [], o, u => if o = 0 then (-1, 0) else if o = 1 then (0, u) else (2, 0)
  | x :: xs, o, u => if gVal x on = 1 then (1, 0) else if gVal x on = 0 then gState on xs (o + 1) x else gState on xs o u
def LitB (l : Int) : Prop := -9223372036854775808 < l ∧ l < 9223372036854775808
theorem state_spec {a a' : Option Addr} {n c n' c' : Nat} {l on : List Int} {r : Int × Int} {K : Value → Mem → Prop} {m : Mem} (h : SlI m a n l) (h' : SlI m a' n' on) (hl : l.length < 2 ^ 44) (hon : on.length < 2 ^ 44)
    (hb : ∀ x ∈ l, LitB x) (hr : gState on l 0 0 = r) (hK : K (.tuple #[.int .i64 r.1, .int .i64 r.2]) m) : callOK Tryz.prog W0 156 [.slice a n c, .slice a' n' c'] K m := by
  refine call156 ?_
  have e1 := h.len
  unfold s156
  refine loop156_1 (γ := Nat) (fun k t4 t5 o u i m' => m' = m ∧ i = k ∧ k ≤ l.length ∧ (0 ≤ o ∧ o ≤ k) ∧ gState on (l.drop k) o u = r) (fun k _ _ _ _ _ => l.length - k) 0 ⟨rfl, rfl, by omega, by omega, hr⟩ ?_
  rintro k t4 t5 o u i m' ⟨rfl, rfl, hk, ho, hj⟩
  unfold s156_1
  refine ifB_lt (fun hlt => ?_) (fun hlt => ?_)
  · have hkl : k < l.length := by omega
    have hx : LitB (l.getD k 0) := hb _ (by simp [List.getD, hkl])
    refine h.get (by omega) (by omega) fun _ _ _ => ?_
    simp only [Int.toNat_natCast]
    rw [drop_cons hkl 0] at hj
    simp only [gState] at hj
    refine val_spec h' (by omega) hx ⟨_, rfl, ?_⟩
    refine ifB_eq (fun he => ?_) (fun hne => ?_)
    · rw [e156_1r]
      rw [if_pos he] at hj
      subst hj
      exact hK
    · rw [if_neg hne] at hj
      refine ifB_eq (fun he => ?_) (fun hne => ?_)
      · rw [if_pos he] at hj
        refine h.get (by omega) (by omega) fun _ _ _ => ?_
        simp only [Int.toNat_natCast]
        refine ⟨k + 1, _, _, _, _, _, rfl, ⟨rfl, wrapS k (by omega), by omega, ?_, ?_⟩, by omega⟩
        · rw [wrap_i64 (by omega) (by omega)]; omega
        · rw [wrap_i64 (by omega) (by omega)]; exact hj
      · rw [if_neg hne] at hj
        exact ⟨k + 1, _, _, _, _, _, rfl, ⟨rfl, wrapS k (by omega), by omega, by omega, hj⟩, by omega⟩
  · rw [e156_1x0]
    have : k = l.length := by omega
    subst this
    rw [List.drop_length] at hj
    simp only [gState] at hj
    unfold s156_1x0
    refine ifB_eq (fun he => ?_) (fun hne => ?_)
    · rw [if_pos he] at hj; subst hj; exact hK
    · rw [if_neg hne] at hj
      refine ifB_eq (fun he => ?_) (fun hne => ?_)
      · rw [if_pos he] at hj; subst hj; exact hK
      · rw [if_neg hne] at hj; subst hj; exact hK

theorem in_spec {a : Option Addr} {n c : Nat} {l : List Int} {x : Int} {K : Value → Mem → Prop} {m : Mem} (h : SlI m a n l) (hl : l.length < 2 ^ 44)
    (hK : K (.bool (l.any (· == x))) m) : callOK Tryz.prog W0 150 [.slice a n c, .int .i64 x] K m := by
  refine call150 ?_
  have e1 := h.len
  unfold s150
  refine loop150_1 (γ := Nat) (fun k t i m' => m' = m ∧ i = k ∧ k ≤ l.length ∧ (l.drop k).any (· == x) = l.any (· == x)) (fun k _ _ => l.length - k) 0 ⟨rfl, rfl, by omega, rfl⟩ ?_
  rintro k t i m' ⟨rfl, rfl, hk, hj⟩
  unfold s150_1
  refine ifB_lt (fun hlt => ?_) (fun hlt => ?_)
  · have hkl : k < l.length := by omega
    refine h.get (by omega) (by omega) fun _ _ _ => ?_
    simp only [Int.toNat_natCast]
    refine ifB_of (fun he => ?_) (fun hne => ?_)
    · rw [e150_1r]
      rw [any_hit (p := (· == x)) l k hkl he] at hK
      exact hK
    · exact ⟨k + 1, t, _, rfl, ⟨rfl, wrapS k (by omega), by omega, any_drop (p := (· == x)) l k hkl hj hne⟩, by omega⟩
  · rw [e150_1x0]
    have : k = l.length := by omega
    subst this
    rw [List.drop_length] at hj
    simp only [List.any_nil] at hj
    rw [← hj] at hK
    exact hK

def gCC : Int → List Int → Int
  | _, [] => 0
  | p, x :: xs => if goGoodLit x = false then 7 else if goVar x ≤ p then 8 else gCC (goVar x) xs
def gCheckClause (l : List Int) : Int := if 12 < l.length then 1 else gCC 0 l
theorem goVar_pos {x : Int} (h : goGoodLit x = true) : 0 < goVar x ∧ goVar x ≤ 12 := by
  simp only [goGoodLit, decide_eq_true_eq] at h
  unfold goVar
  split
  · rw [wrap_i64 (by omega) (by omega)]; omega
  · omega
theorem checkClause_spec {a : Option Addr} {n c : Nat} {l : List Int} {r : Int} {K : Value → Mem → Prop} {m : Mem} (h : SlI m a n l) (hr : gCheckClause l = r)
    (hK : K (.int .i64 r) m) : callOK Tryz.prog W0 95 [.slice a n c] K m := by
  refine call95 ?_
  have e1 := h.len
  unfold s95
  refine ifB_gt (fun hlt => ?_) (fun hlt => ?_)
  · rw [gCheckClause, if_pos (by omega)] at hr
    subst hr; exact hK
  · rw [gCheckClause, if_neg (by omega)] at hr
    refine loop95_1 (γ := Nat) (fun k t i m' => m' = m ∧ i = k ∧ k ≤ l.length ∧ gCC (if k = 0 then 0 else goVar (l.getD (k - 1) 0)) (l.drop k) = r) (fun k _ _ => l.length - k) 0 ⟨rfl, rfl, by omega, hr⟩ ?_
    rintro k t i m' ⟨rfl, rfl, hk, hj⟩
    unfold s95_1
    refine ifB_lt (fun hlt => ?_) (fun hlt => ?_)
    · have hkl : k < l.length := by omega
      rw [drop_cons hkl 0] at hj
      simp only [gCC] at hj
      refine h.get (by omega) (by omega) fun _ _ _ => ?_
      simp only [Int.toNat_natCast]
      refine ifB_not (fun he => ?_) (fun he => ?_)
      · rw [e95_1r]
        rw [if_pos he] at hj
        subst hj; exact hK
      · rw [if_neg (by rw [he]; decide)] at hj
        refine ifB_gt (fun h0 => ?_) (fun h0 => ?_)
        · rw [if_neg (show ¬ k = 0 by omega)] at hj
          refine h.get (by omega) (by omega) fun _ _ _ => ?_
          rw [wrap_i64 (by omega) (by omega)]
          refine h.get (by omega) (by omega) fun _ _ _ => ?_
          simp only [Int.toNat_natCast]
          have hk1 : ((k : Int) - 1).toNat = k - 1 := by omega
          rw [hk1]
          refine ifB_le (fun h1 => ?_) (fun h1 => ?_)
          · rw [e95_1r]
            rw [if_pos h1] at hj
            subst hj; exact hK
          · rw [if_neg (by omega)] at hj
            refine ⟨k + 1, t, _, rfl, ⟨rfl, wrapS k (by omega), by omega, ?_⟩, by omega⟩
            simpa using hj
        · have : k = 0 := by omega
          subst this
          have := goVar_pos he
          rw [if_pos rfl, if_neg (by omega)] at hj
          refine ⟨0 + 1, t, _, rfl, ⟨rfl, wrapS 0 (by omega), by omega, ?_⟩, by omega⟩
          simpa using hj
    · rw [e95_1x0]
      have : k = l.length := by omega
      subst this
      rw [List.drop_length] at hj
      simp only [gCC] at hj
      subst hj; exact hK

def gCF : Bool → Int → List Int → Int
  | _, _, [] => 0
  | s, p, x :: xs =>
    if x = 13 ∧ s = true then (if xs = [] then 6 else gCF false p xs)
    else if x = 0 then gCF true 0 xs
    else if goGoodLit x = false then 6
    else if goVar x ≤ p then 6
    else gCF false (goVar x) xs
def gCheckFlat (f : List Int) : Int := if gCF true 0 f = 0 then (if f ≠ [] ∧ f.getD (f.length - 1) 0 ≠ 0 then 6 else 0) else gCF true 0 f
theorem gCF_06 : ∀ (f : List Int) (s : Bool) (p : Int), gCF s p f = 0 ∨ gCF s p f = 6
  | [], _, _ => .inl rfl
  | x :: xs, s, p => by
    simp only [gCF]
    repeat' split
    all_goals first | exact gCF_06 xs _ _ | simp
theorem checkFlat_spec {a : Option Addr} {n c : Nat} {l : List Int} {r : Int} {K : Value → Mem → Prop} {m : Mem} (h : SlI m a n l) (hl : l.length < 2 ^ 44) (hr : gCheckFlat l = r)
    (hK : K (.int .i64 r) m) : callOK Tryz.prog W0 115 [.slice a n c] K m := by
  refine call115 ?_
  have e1 := h.len
  obtain ⟨r0, hr0⟩ : ∃ r0, gCF true 0 l = r0 := ⟨_, rfl⟩
  unfold s115
  refine loop115_1 (γ := Nat) (fun k t s p i m' => m' = m ∧ i = k ∧ k ≤ l.length ∧ gCF s p (l.drop k) = r0) (fun k _ _ _ _ => l.length - k) 0 ⟨rfl, rfl, by omega, hr0⟩ ?_
  rintro k t s p i m' ⟨rfl, rfl, hk, hj⟩
  unfold s115_1
  have bad : r0 = 6 → K (.int .i64 6) m' := by
    intro h6
    have : gCheckFlat l = 6 := by rw [gCheckFlat, hr0, h6]; rfl
    rw [this] at hr
    subst hr; exact hK
  refine ifB_lt (fun hlt => ?_) (fun hlt => ?_)
  · have hkl : k < l.length := by omega
    rw [drop_cons hkl 0] at hj
    simp only [gCF] at hj
    have rest : ¬ (l.getD k 0 = 13 ∧ s = true) → ∀ (A B C D : Prop), (gCF true 0 (l.drop (k + 1)) = r0 → A) → (r0 = 6 → B) → (r0 = 6 → C) → (gCF false (goVar (l.getD k 0)) (l.drop (k + 1)) = r0 → D) →
        ifB (l.getD k 0 == 0) A (ifB (!goGoodLit (l.getD k 0)) B (ifB (decide (goVar (l.getD k 0) ≤ p)) C D)) := by
      intro h13 A B C D hA hB hC hD
      rw [if_neg h13] at hj
      refine ifB_eq (fun he => ?_) (fun he => ?_)
      · rw [if_pos he] at hj
        exact hA hj
      · rw [if_neg he] at hj
        refine ifB_not (fun h1 => ?_) (fun h1 => ?_)
        · rw [if_pos h1] at hj
          exact hB hj.symm
        · rw [if_neg (by rw [h1]; decide)] at hj
          refine ifB_le (fun h2 => ?_) (fun h2 => ?_)
          · rw [if_pos h2] at hj
            exact hC hj.symm
          · rw [if_neg (by omega)] at hj
            exact hD hj
    refine h.get (by omega) (by omega) fun _ _ _ => ?_
    simp only [Int.toNat_natCast]
    refine ifB_eq (fun he => ?_) (fun he => ?_)
    · refine ifB_of (fun hs => ?_) (fun hs => ?_)
      · rw [if_pos ⟨he, hs⟩] at hj
        rw [wrapS k (by omega)]
        refine ifB_ge (fun h1 => ?_) (fun h1 => ?_)
        · rw [if_pos (by apply List.eq_nil_of_length_eq_zero; simp; omega)] at hj
          rw [e115_1r]
          exact bad hj.symm
        · rw [if_neg (by intro h0; have := congrArg List.length h0; simp at this; omega)] at hj
          exact ⟨k + 1, t, _, _, _, rfl, ⟨rfl, rfl, by omega, hj⟩, by omega⟩
      · refine rest (by simp [hs]) _ _ _ _ (fun h1 => ?_) (fun h1 => ?_) (fun h1 => ?_) (fun h1 => ?_)
        · exact ⟨k + 1, t, _, _, _, rfl, ⟨rfl, wrapS k (by omega), by omega, h1⟩, by omega⟩
        · rw [e115_1r]; exact bad h1
        · rw [e115_1r]; exact bad h1
        · exact ⟨k + 1, t, _, _, _, rfl, ⟨rfl, wrapS k (by omega), by omega, h1⟩, by omega⟩
    · refine rest (fun h0 => he h0.1) _ _ _ _ (fun h1 => ?_) (fun h1 => ?_) (fun h1 => ?_) (fun h1 => ?_)
      · exact ⟨k + 1, t, _, _, _, rfl, ⟨rfl, wrapS k (by omega), by omega, h1⟩, by omega⟩
      · rw [e115_1r]; exact bad h1
      · rw [e115_1r]; exact bad h1
      · exact ⟨k + 1, t, _, _, _, rfl, ⟨rfl, wrapS k (by omega), by omega, h1⟩, by omega⟩
  · rw [e115_1x0]
    have : k = l.length := by omega
    subst this
    rw [List.drop_length] at hj
    simp only [gCF] at hj
    subst hj
    rw [gCheckFlat, hr0, if_pos rfl] at hr
    unfold s115_1x0
    refine ifB_gt (fun h0 => ?_) (fun h0 => ?_)
    · rw [wrap_i64 (by omega) (by omega)]
      refine h.get (by omega) (by omega) fun _ _ _ => ?_
      have hk1 : ((n : Int) - 1).toNat = l.length - 1 := by omega
      rw [hk1]
      have hne : l ≠ [] := by intro h0; subst h0; simp at e1; omega
      refine ifB_ne (fun h1 => ?_) (fun h1 => ?_)
      · rw [if_pos ⟨hne, h1⟩] at hr; subst hr; exact hK
      · rw [if_neg (fun h0 => h0.2 h1)] at hr; subst hr; exact hK
    · have : l = [] := List.eq_nil_of_length_eq_zero (by omega)
      subst this
      rw [if_neg (by simp)] at hr; subst hr; exact hK

def gSurvey : Int → List Int → Int
  | n, [] => if 40 < n then 17 else 0
  | n, x :: xs => if x = 13 then 16 else if x = 0 then gSurvey (n + 1) xs else gSurvey n xs
theorem survey_spec {a : Option Addr} {n c : Nat} {l : List Int} {r : Int} {K : Value → Mem → Prop} {m : Mem} (h : SlI m a n l) (hl : l.length < 2 ^ 44) (hr : gSurvey 0 l = r)
    (hK : K (.int .i64 r) m) : callOK Tryz.prog W0 26 [.slice a n c] K m := by
  refine call26 ?_
  have e1 := h.len
  unfold s26
  refine loop26_1 (γ := Nat) (fun k t s i m' => m' = m ∧ i = k ∧ k ≤ l.length ∧ (0 ≤ s ∧ s ≤ k) ∧ gSurvey s (l.drop k) = r) (fun k _ _ _ => l.length - k) 0 ⟨rfl, rfl, by omega, by omega, hr⟩ ?_
  rintro k t s i m' ⟨rfl, rfl, hk, hs, hj⟩
  unfold s26_1
  refine ifB_lt (fun hlt => ?_) (fun hlt => ?_)
  · have hkl : k < l.length := by omega
    rw [drop_cons hkl 0] at hj
    simp only [gSurvey] at hj
    refine h.get (by omega) (by omega) fun _ _ _ => ?_
    simp only [Int.toNat_natCast]
    refine ifB_eq (fun he => ?_) (fun he => ?_)
    · rw [if_pos he] at hj
      rw [e26_1r]
      subst hj; exact hK
    · rw [if_neg he] at hj
      refine h.get (by omega) (by omega) fun _ _ _ => ?_
      simp only [Int.toNat_natCast]
      refine ifB_eq (fun he => ?_) (fun he => ?_)
      · rw [if_pos he] at hj
        refine ⟨k + 1, t, _, _, rfl, ⟨rfl, wrapS k (by omega), by omega, ?_, ?_⟩, by omega⟩
        · rw [wrap_i64 (by omega) (by omega)]; omega
        · rw [wrap_i64 (by omega) (by omega)]; exact hj
      · rw [if_neg he] at hj
        exact ⟨k + 1, t, _, _, rfl, ⟨rfl, wrapS k (by omega), by omega, by omega, hj⟩, by omega⟩
  · rw [e26_1x0]
    have : k = l.length := by omega
    subst this
    rw [List.drop_length] at hj
    simp only [gSurvey] at hj
    unfold s26_1x0
    refine ifB_gt (fun he => ?_) (fun he => ?_)
    · rw [if_pos he] at hj; subst hj; exact hK
    · rw [if_neg (by omega)] at hj; subst hj; exact hK
theorem fit_spec {a : Option Addr} {n c : Nat} {l : List Int} {r : Int} {K : Value → Mem → Prop} {m : Mem} (h : SlI m a n l) (hl : l.length < 2 ^ 44) (hr : gSurvey 0 l = r)
    (hK : K (.int .i64 r) m) : callOK Tryz.prog W0 37 [.slice a n c] K m := by
  refine call37 ?_
  have e1 := h.len
  unfold s37
  refine loop37_1 (γ := Nat) (fun k t s i m' => m' = m ∧ i = k ∧ k ≤ l.length ∧ (0 ≤ s ∧ s ≤ k) ∧ gSurvey s (l.drop k) = r) (fun k _ _ _ => l.length - k) 0 ⟨rfl, rfl, by omega, by omega, hr⟩ ?_
  rintro k t s i m' ⟨rfl, rfl, hk, hs, hj⟩
  unfold s37_1
  refine ifB_lt (fun hlt => ?_) (fun hlt => ?_)
  · have hkl : k < l.length := by omega
    rw [drop_cons hkl 0] at hj
    simp only [gSurvey] at hj
    refine h.get (by omega) (by omega) fun _ _ _ => ?_
    simp only [Int.toNat_natCast]
    refine ifB_eq (fun he => ?_) (fun he => ?_)
    · rw [if_pos he] at hj
      rw [e37_1r]
      subst hj; exact hK
    · rw [if_neg he] at hj
      refine h.get (by omega) (by omega) fun _ _ _ => ?_
      simp only [Int.toNat_natCast]
      refine ifB_eq (fun he => ?_) (fun he => ?_)
      · rw [if_pos he] at hj
        refine ⟨k + 1, t, _, _, rfl, ⟨rfl, wrapS k (by omega), by omega, ?_, ?_⟩, by omega⟩
        · rw [wrap_i64 (by omega) (by omega)]; omega
        · rw [wrap_i64 (by omega) (by omega)]; exact hj
      · rw [if_neg he] at hj
        exact ⟨k + 1, t, _, _, rfl, ⟨rfl, wrapS k (by omega), by omega, by omega, hj⟩, by omega⟩
  · rw [e37_1x0]
    have : k = l.length := by omega
    subst this
    rw [List.drop_length] at hj
    simp only [gSurvey] at hj
    unfold s37_1x0
    refine ifB_gt (fun he => ?_) (fun he => ?_)
    · rw [if_pos he] at hj; subst hj; exact hK
    · rw [if_neg (by omega)] at hj; subst hj; exact hK
end Go.Proofs.Qxb6500974aGreat
