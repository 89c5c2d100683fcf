import Derived.Test.Qxb6500974aGreatR14
import Derived.Test.Qxb6500974aGreatM9
set_option linter.all false
set_option linter.unusedSimpArgs false
set_option linter.unusedVariables false
namespace Go.Proofs.Qxb6500974aGreat
open Go.Eng

def rEnd (t : List UInt8) (s1 : Pst) : Int × Int × List Int :=
  ((rOpen (if s1.err = 0 then pFeed s1 32 t.length else s1) t.length).err, (rOpen (if s1.err = 0 then pFeed s1 32 t.length else s1) t.length).at_, if (rOpen (if s1.err = 0 then pFeed s1 32 t.length else s1) t.length).err = 0 then (rOpen (if s1.err = 0 then pFeed s1 32 t.length else s1) t.length).arena else [])
def rC (t : List UInt8) (s : Pst) (i : Nat) : Int × Int × List Int := rEnd t (gFeeds (t.drop i) i s)
theorem rParse_rC {t : List UInt8} (h : ¬ 1048576 < t.length) : rParse t = rC t Pst.rest 0 := by
  unfold rParse rC rEnd rFin rLast
  rw [if_neg h, List.drop_zero]
theorem feeds_err {s : Pst} (h : s.err ≠ 0) : ∀ (l : List UInt8) (i : Nat), gFeeds l i s = s
  | [], _ => rfl
  | c :: cs, i => by simp only [gFeeds]; rw [if_neg h]
theorem rC_err {t : List UInt8} {s : Pst} {i : Nat} (h : s.err ≠ 0) : rC t s i = (s.err, s.at_, []) := by
  unfold rC rEnd
  rw [feeds_err h, if_neg h]
  unfold rOpen
  rw [if_neg (fun h0 => h h0.1), if_neg h]
theorem rC_step {t : List UInt8} {s : Pst} {i : Nat} (h : s.err = 0) (hi : i < t.length) : rC t s i = rC t (pFeed s (t.getD i 0).toNat i) (i + 1) := by
  unfold rC
  rw [drop_cons hi 0]
  simp only [gFeeds]
  rw [if_pos h]
theorem rC_end {t : List UInt8} {s : Pst} {i : Nat} (h : s.err = 0) (hi : t.length ≤ i) : rC t s i = if (pFeed s 32 t.length).err ≠ 0 then ((pFeed s 32 t.length).err, (pFeed s 32 t.length).at_, []) else if (pFeed s 32 t.length).opn = true then (5, (t.length : Int), []) else (0, (pFeed s 32 t.length).at_, (pFeed s 32 t.length).arena) := by
  have e : gFeeds (t.drop i) i s = s := by rw [List.drop_eq_nil_of_le hi]; rfl
  unfold rC rEnd
  rw [e, if_pos h]
  generalize pFeed s 32 t.length = q
  unfold rOpen
  by_cases h1 : q.err = 0
  · by_cases h2 : q.opn = true
    · rw [if_pos ⟨h1, h2⟩]
      simp [pFail, h1, h2]
    · rw [if_neg (fun h0 => h2 h0.2)]
      simp [h1, h2]
  · rw [if_neg (fun h0 => h1 h0.1), if_pos h1, if_neg h1]

theorem class_sp (c : UInt8) : goClass c.toNat = 1 ↔ sp c = true := by
  unfold sp goSpace goClass
  rw [decide_eq_true_eq]
  constructor
  · intro h
    split at h
    · assumption
    · repeat' split at h
      all_goals omega
  · intro h
    rw [if_pos h]
theorem class_dig (c : UInt8) : goClass c.toNat = 2 ↔ isDig c = true := by
  unfold isDig goClass
  rw [decide_eq_true_eq]
  constructor
  · intro h
    repeat' split at h
    all_goals omega
  · intro h
    rw [if_neg (by omega), if_neg (by omega), if_neg (by omega), if_neg (by omega), if_pos (by omega)]
theorem class_minus (c : UInt8) : goClass c.toNat = 3 ↔ c = 45 := by
  have : (c = 45) ↔ c.toNat = 45 := by rw [← UInt8.toNat_inj]; rfl
  rw [this]
  unfold goClass
  constructor
  · intro h
    repeat' split at h
    all_goals omega
  · intro h
    rw [if_neg (by omega), if_pos (by omega)]
theorem class_c (c : UInt8) : goClass c.toNat = 4 ↔ c = 99 := by
  have : (c = 99) ↔ c.toNat = 99 := by rw [← UInt8.toNat_inj]; rfl
  rw [this]
  unfold goClass
  constructor
  · intro h
    repeat' split at h
    all_goals omega
  · intro h
    rw [if_neg (by omega), if_neg (by omega), if_pos (by omega)]
theorem class_d (c : UInt8) : goClass c.toNat = 5 ↔ c = 100 := by
  have : (c = 100) ↔ c.toNat = 100 := by rw [← UInt8.toNat_inj]; rfl
  rw [this]
  unfold goClass
  constructor
  · intro h
    repeat' split at h
    all_goals omega
  · intro h
    rw [if_neg (by omega), if_neg (by omega), if_neg (by omega), if_pos (by omega)]
theorem class_range (c : Int) : 0 ≤ goClass c ∧ goClass c ≤ 5 := by
  unfold goClass
  repeat' split
  all_goals omega
theorem class_32 : goClass ((32 : Nat) : Int) = 1 := rfl

theorem fnd_le {p : UInt8 → Bool} {t : List UInt8} {i : Nat} (h : i ≤ t.length) : i ≤ gFind p t i ∧ gFind p t i ≤ t.length := by
  unfold gFind
  have h1 : ((t.drop i).takeWhile fun x => !p x).length ≤ (t.drop i).length := (List.takeWhile_prefix _).length_le
  rw [List.length_drop] at h1
  omega
theorem gFind_miss {p : UInt8 → Bool} {t : List UInt8} {i : Nat} (h : i < t.length) (hp : p (t.getD i 0) = false) : gFind p t i = gFind p t (i + 1) := by
  unfold gFind
  rw [drop_cons h 0, List.takeWhile_cons, hp]
  simp
  omega
theorem fnd_end {p : UInt8 → Bool} {t : List UInt8} {i : Nat} (h : t.length ≤ i) : gFind p t i = i := by
  unfold gFind
  rw [List.drop_eq_nil_of_le h]
  simp
theorem gFind_at {p : UInt8 → Bool} {t : List UInt8} : ∀ (n i : Nat), t.length - i = n → i ≤ t.length → gFind p t i < t.length → p (t.getD (gFind p t i) 0) = true
  | 0, i, hn, hi, h => by rw [fnd_end (by omega)] at h; omega
  | n + 1, i, hn, hi, h => by
    have hlt : i < t.length := by omega
    by_cases hp : p (t.getD i 0) = true
    · rw [gFind_hit hlt hp]; exact hp
    · have hf := Bool.eq_false_iff.2 hp
      rw [gFind_miss hlt hf] at h ⊢
      exact gFind_at n (i + 1) (by omega) (by omega) h

structure Bet (s : Pst) (flat row : List Int) (del op : Bool) : Prop where
  state : s.state = 0
  err : s.err = 0
  at_ : s.at_ = 0
  arena : s.arena = flat
  pos : ∀ v, s.pos v = row.any (· == (v : Int))
  neg : ∀ v, s.neg v = row.any (· == -(v : Int))
  good : ∀ x ∈ row, goGoodLit x = true
  del : s.del = del
  opn : s.opn = op
theorem sweep_norm {s : Pst} {row : List Int} (hp : ∀ v, s.pos v = row.any (· == (v : Int))) (hn : ∀ v, s.neg v = row.any (· == -(v : Int))) : ∀ (n v : Nat) (out : List Int),
    ((∃ u, v ≤ u ∧ u < v + n ∧ s.pos u = true ∧ s.neg u = true) → gNorm row n v out = none) ∧ ((¬ ∃ u, v ≤ u ∧ u < v + n ∧ s.pos u = true ∧ s.neg u = true) → gNorm row n v out = some (out ++ sweepA s.pos s.neg n v))
  | 0, v, out => by
    simp only [gNorm, sweepA, List.append_nil]
    refine ⟨?_, fun _ => by simp⟩
    rintro ⟨u, h1, h2, _⟩; omega
  | n + 1, v, out => by
    simp only [gNorm]
    rw [← hp v, ← hn v]
    by_cases hb : s.pos v = true ∧ s.neg v = true
    · rw [if_pos hb]
      exact ⟨fun _ => rfl, fun h0 => absurd ⟨v, by omega, by omega, hb⟩ h0⟩
    · rw [if_neg hb]
      have ih := sweep_norm hp hn n (v + 1) ((if s.pos v = true then out ++ [(v : Int)] else out) ++ (if s.neg v = true then [-(v : Int)] else []))
      have e : ((v + 1 : Nat) : Int) = (v : Int) + 1 := by omega
      rw [e] at ih
      have hiff : (∃ u, v + 1 ≤ u ∧ u < v + 1 + n ∧ s.pos u = true ∧ s.neg u = true) ↔ ∃ u, v ≤ u ∧ u < v + (n + 1) ∧ s.pos u = true ∧ s.neg u = true := by
        constructor
        · rintro ⟨u, h1, h2, h3⟩; exact ⟨u, by omega, by omega, h3⟩
        · rintro ⟨u, h1, h2, h3⟩
          by_cases he : u = v
          · subst he; exact absurd h3 hb
          · exact ⟨u, by omega, by omega, h3⟩
      refine ⟨fun hex => ih.1 (hiff.2 hex), fun hex => ?_⟩
      rw [ih.2 (fun h0 => hex (hiff.1 h0))]
      simp only [sweepA]
      congr 1
      by_cases h1 : s.pos v = true
      · by_cases h2 : s.neg v = true
        · exact absurd ⟨h1, h2⟩ hb
        · simp [h1, h2]
      · by_cases h2 : s.neg v = true
        · simp [h1, h2]
        · simp [h1, h2]
theorem Bet.high {s : Pst} {flat row : List Int} {del op : Bool} (h : Bet s flat row del op) {v : Nat} (hv : v = 0 ∨ 13 ≤ v) : s.pos v = false ∧ s.neg v = false := by
  rw [h.pos, h.neg]
  refine ⟨?_, ?_⟩
  · rw [Bool.eq_false_iff]
    intro h0
    obtain ⟨x, hx, h1⟩ := List.any_eq_true.1 h0
    have := good_abs (h.good x hx)
    have : x = (v : Int) := by simpa using h1
    omega
  · rw [Bool.eq_false_iff]
    intro h0
    obtain ⟨x, hx, h1⟩ := List.any_eq_true.1 h0
    have := good_abs (h.good x hx)
    have : x = -(v : Int) := by simpa using h1
    omega
theorem end_arena {s : Pst} {flat row : List Int} {del op : Bool} (h : Bet s flat row del op) : endArena s = match gNorm row 12 1 [] with
    | none => flat
    | some l => gRow flat del l := by
  have hn := sweep_norm (s := s) h.pos h.neg 12 1 []
  have e1 : ((1 : Nat) : Int) = 1 := rfl
  rw [e1] at hn
  have hd : disj s.pos s.neg = true ↔ ¬ ∃ u, 1 ≤ u ∧ u < 1 + 12 ∧ s.pos u = true ∧ s.neg u = true := by
    unfold disj
    rw [List.all_eq_true]
    constructor
    · rintro h0 ⟨u, h1, h2, h3, h4⟩
      have := h0 u (List.mem_range.2 (by omega))
      rw [h3, h4] at this
      cases this
    · intro h0 u hu
      have hu16 := List.mem_range.1 hu
      by_cases hr : u = 0 ∨ 13 ≤ u
      · rw [(h.high hr).1]; rfl
      · cases hpu : s.pos u with
        | false => rfl
        | true =>
          cases hnu : s.neg u with
          | false => rfl
          | true => exact absurd ⟨u, by omega, by omega, hpu, hnu⟩ h0
  unfold endArena
  by_cases hc : ∃ u, 1 ≤ u ∧ u < 1 + 12 ∧ s.pos u = true ∧ s.neg u = true
  · rw [hn.1 hc, if_neg (fun h0 => hd.1 h0 hc), h.arena]
  · rw [hn.2 hc, if_pos (hd.2 hc), h.arena, h.del]
    simp only [gRow, List.nil_append]

theorem number_bet {s : Pst} {flat row : List Int} {del op : Bool} {v : Nat} {neg : Bool} (h : Bet { s with state := 0 } flat row del op) (hv : s.val = v) (hm : s.minus = neg) :
    (v = 0 ∧ neg = true → pNumber { s with state := 0 } = pFail { s with state := 0 } 3 s.start) ∧
    (¬ (v = 0 ∧ neg = true) → 12 < v → pNumber { s with state := 0 } = pFail { s with state := 0 } 4 s.start) ∧
    (¬ (v = 0 ∧ neg = true) → ¬ 12 < v → v ≠ 0 → Bet (pNumber { s with state := 0 }) flat (row ++ [if neg = true then -(v : Int) else (v : Int)]) del true) ∧
    (¬ (v = 0 ∧ neg = true) → ¬ 12 < v → v = 0 → Bet (pNumber { s with state := 0 }) (match gNorm row 12 1 [] with | none => flat | some l => gRow flat del l) [] false false) := by
  subst hv hm
  unfold pNumber
  refine ⟨fun h0 => by rw [if_pos h0], fun h0 h1 => by rw [if_neg h0, if_pos h1], fun h0 h1 h2 => ?_, fun h0 h1 h2 => ?_⟩
  · rw [if_neg h0, if_neg h1, if_neg h2]
    dsimp only at h1 h2 ⊢
    by_cases hn : s.minus = true
    · rw [if_pos hn, if_pos hn]
      refine ⟨rfl, h.err, h.at_, h.arena, fun u => ?_, fun u => ?_, ?_, h.del, rfl⟩
      · have := h.pos u
        dsimp only at this ⊢
        rw [this, List.any_append]
        have : ([-(s.val : Int)].any fun x => x == (u : Int)) = false := by simp; omega
        rw [this, Bool.or_false]
      · have := h.neg u
        dsimp only at this ⊢
        rw [List.any_append, ← this]
        by_cases he : u = s.val
        · subst he; rw [fupd_at]; simp
        · rw [fupd_ne _ _ he]
          have : ([-(s.val : Int)].any fun x => x == -(u : Int)) = false := by simp; omega
          rw [this, Bool.or_false]
      · intro x hx
        rw [List.mem_append] at hx
        rcases hx with hx | hx
        · exact h.good x hx
        · simp at hx; subst hx; simp [goGoodLit]; omega
    · rw [if_neg hn, if_neg hn]
      refine ⟨rfl, h.err, h.at_, h.arena, fun u => ?_, fun u => ?_, ?_, h.del, rfl⟩
      · have := h.pos u
        dsimp only at this ⊢
        rw [List.any_append, ← this]
        by_cases he : u = s.val
        · subst he; rw [fupd_at]; simp
        · rw [fupd_ne _ _ he]
          have : ([(s.val : Int)].any fun x => x == (u : Int)) = false := by simp; omega
          rw [this, Bool.or_false]
      · have := h.neg u
        dsimp only at this ⊢
        rw [this, List.any_append]
        have : ([(s.val : Int)].any fun x => x == -(u : Int)) = false := by simp; omega
        rw [this, Bool.or_false]
      · intro x hx
        rw [List.mem_append] at hx
        rcases hx with hx | hx
        · exact h.good x hx
        · simp at hx; subst hx; simp [goGoodLit]; omega
  · rw [if_neg h0, if_neg h1, if_pos h2]
    exact ⟨rfl, h.err, h.at_, end_arena h, fun u => by simp [pEnd, noV], fun u => by simp [pEnd, noV], by simp, rfl, rfl⟩

theorem feed0 {s : Pst} {c i : Nat} (h : s.state = 0) : pFeed s c i = pBegin s c i := by unfold pFeed; rw [if_pos h]
theorem feed1 {s : Pst} {c i : Nat} (h : s.state = 1) : pFeed s c i = if c = 10 then { s with state := 0 } else s := by unfold pFeed; rw [if_neg (by omega), if_pos h]
theorem feed2 {s : Pst} {c i : Nat} (h : s.state = 2) : pFeed s c i = if goClass c = 2 then { s with state := 3, val := c - 48 } else if goClass c = 1 then pFail s 3 s.start else pFail s 2 i := by unfold pFeed; rw [if_neg (by omega), if_neg (by omega), if_pos h]
theorem feed3 {s : Pst} {c i : Nat} (h : s.state = 3) : pFeed s c i = if goClass c = 2 then { s with val := if s.val * 10 + (c - 48) > 12 then 13 else s.val * 10 + (c - 48) } else if goClass c = 1 then pNumber { s with state := 0 } else pFail s 2 i := by unfold pFeed; rw [if_neg (by omega), if_neg (by omega), if_neg (by omega), if_pos h]
theorem feed4 {s : Pst} {c i : Nat} (h : s.state = 4) : pFeed s c i = if goClass c = 1 then { s with state := 0 } else pFail s 2 i := by unfold pFeed; rw [if_neg (by omega), if_neg (by omega), if_neg (by omega), if_neg (by omega), if_pos h]

theorem rC_comment {t : List UInt8} : ∀ (n k : Nat) (s : Pst), t.length - k = n → k ≤ t.length → s.state = 1 → s.err = 0 → (gFind nl t k < t.length → rC t s k = rC t { s with state := 0 } (gFind nl t k + 1)) ∧ (gFind nl t k = t.length → rC t s k = if s.opn = true then (5, (t.length : Int), []) else (0, s.at_, s.arena))
  | 0, k, s, hn, hk, hs, he => by
    have hkl : k = t.length := by omega
    subst hkl
    rw [fnd_end (Nat.le_refl _)]
    refine ⟨fun h => by omega, fun _ => ?_⟩
    have e : pFeed s 32 t.length = s := by rw [feed1 hs, if_neg (by omega)]
    rw [rC_end he (Nat.le_refl _), e]
    simp [he]
  | n + 1, k, s, hn, hk, hs, he => by
    have hlt : k < t.length := by omega
    rw [rC_step he hlt, feed1 hs]
    by_cases hc : t.getD k 0 = 10
    · have hnl : nl (t.getD k 0) = true := by rw [hc]; rfl
      rw [gFind_hit hlt hnl]
      refine ⟨fun _ => ?_, fun h => by omega⟩
      rw [if_pos (by rw [hc]; rfl)]
    · have hnl : nl (t.getD k 0) = false := by unfold nl; simpa using hc
      have hc10 : ¬ (t.getD k 0).toNat = 10 := fun h0 => hc (by rw [← UInt8.toNat_inj]; exact h0)
      rw [gFind_miss hlt hnl, if_neg hc10]
      exact rC_comment n (k + 1) s (by omega) (by omega) hs he

theorem rC_digits {t : List UInt8} {b : Nat} (hb : b ≤ t.length) (hsp : ∀ j, j < b → True) : ∀ (n k : Nat) (s : Pst), b - k = n → k ≤ b → s.state = 3 → s.err = 0 → (∀ j, k ≤ j → j < b → sp (t.getD j 0) = false) → (b < t.length → sp (t.getD b 0) = true) →
    (∀ j, gBad t (b - k) k = some j → rC t s k = (2, (j : Int), [])) ∧
    (gBad t (b - k) k = none → ∃ v : Nat, (v : Int) = gV t (b - k) k (s.val : Int) ∧ (b < t.length → rC t s k = rC t (pNumber { s with state := 0, val := v }) (b + 1)) ∧
      (b = t.length → rC t s k = if (pNumber { s with state := 0, val := v }).err ≠ 0 then ((pNumber { s with state := 0, val := v }).err, (pNumber { s with state := 0, val := v }).at_, []) else if (pNumber { s with state := 0, val := v }).opn = true then (5, (t.length : Int), []) else (0, (pNumber { s with state := 0, val := v }).at_, (pNumber { s with state := 0, val := v }).arena)))
  | 0, k, s, hn, hk, hs, he, hns, hbs => by
    have hkb : k = b := by omega
    subst hkb
    rw [Nat.sub_self]
    refine ⟨fun j h => by simp [gBad] at h, fun _ => ⟨s.val, rfl, fun hlt => ?_, fun hle => ?_⟩⟩
    · have h1 := (class_sp _).2 (hbs hlt)
      rw [rC_step he hlt, feed3 hs, if_neg (by rw [h1]; decide), if_pos h1]
    · have e : pFeed s 32 t.length = pNumber { s with state := 0 } := by rw [feed3 hs, if_neg (by rw [class_32]; decide), if_pos class_32]
      rw [rC_end he (by omega), e]
  | n + 1, k, s, hn, hk, hs, he, hns, hbs => by
    have hlt : k < b := by omega
    have hsf := hns k (Nat.le_refl _) hlt
    have h1 : ¬ goClass (t.getD k 0).toNat = 1 := fun h0 => by rw [(class_sp _).1 h0] at hsf; cases hsf
    have ef : b - k = (b - (k + 1)) + 1 := by omega
    rw [ef]
    simp only [gBad, gV]
    rw [rC_step he (by omega), feed3 hs]
    by_cases hd : isDig (t.getD k 0) = true
    · have h2 := (class_dig _).2 hd
      rw [if_pos hd, if_pos h2]
      have hdr : 48 ≤ (t.getD k 0).toNat ∧ (t.getD k 0).toNat ≤ 57 := of_decide_eq_true hd
      have ih := rC_digits hb hsp n (k + 1) { s with val := if s.val * 10 + ((t.getD k 0).toNat - 48) > 12 then 13 else s.val * 10 + ((t.getD k 0).toNat - 48) } (by omega) (by omega) hs he (fun j h1 h2 => hns j (by omega) h2) hbs
      refine ⟨ih.1, fun hnone => ?_⟩
      obtain ⟨v, hv, r1, r2⟩ := ih.2 hnone
      refine ⟨v, ?_, r1, r2⟩
      rw [hv]
      congr 1
      dsimp only
      unfold satur
      split <;> split <;> omega
    · have h2 : ¬ goClass (t.getD k 0).toNat = 2 := fun h0 => hd ((class_dig _).1 h0)
      rw [if_neg hd, if_neg h2, if_neg h1]
      refine ⟨fun j hj => ?_, fun h0 => by cases h0⟩
      cases hj
      rw [rC_err (by simp [pFail])]
      simp [pFail]
theorem find_sp {t : List UInt8} {i : Nat} (hi : i ≤ t.length) : (∀ j, i ≤ j → j < gFind sp t i → sp (t.getD j 0) = false) ∧ (gFind sp t i < t.length → sp (t.getD (gFind sp t i) 0) = true) := by
  refine ⟨?_, gFind_at _ i rfl hi⟩
  have : ∀ (n i : Nat), t.length - i = n → i ≤ t.length → ∀ j, i ≤ j → j < gFind sp t i → sp (t.getD j 0) = false := by
    intro n
    induction n with
    | zero => intro i hn hi j h1 h2; rw [fnd_end (by omega)] at h2; omega
    | succ n ih =>
      intro i hn hi j h1 h2
      have hlt : i < t.length := by omega
      by_cases hp : sp (t.getD i 0) = true
      · rw [gFind_hit hlt hp] at h2; omega
      · have hf := Bool.eq_false_iff.2 hp
        rw [gFind_miss hlt hf] at h2
        by_cases he : j = i
        · subst he; exact hf
        · exact ih (i + 1) (by omega) (by omega) j (by omega) h2
  exact this _ i rfl hi

theorem rC_gPM {t : List UInt8} : ∀ (n i : Nat) (s : Pst) (flat row : List Int) (del op : Bool), t.length + 1 ≤ n + i → i ≤ t.length → Bet s flat row del op → rC t s i = gPM t n i flat row del op
  | 0, i, s, flat, row, del, op, hn, hi, h => by omega
  | n + 1, i, s, flat, row, del, op, hn, hi, h => by
    simp only [gPM]
    by_cases hlt : i < t.length
    · rw [if_pos hlt, rC_step h.err hlt, feed0 h.state]
      have hcr := class_range (t.getD i 0).toNat

      have go : ∀ (b : Nat) (s' : Pst) (flat' row' : List Int) (del' op' : Bool), i < b → b ≤ t.length → (b < t.length → sp (t.getD b 0) = true) → Bet s' flat' row' del' op' → (b < t.length → rC t s' (b + 1) = gPM t n b flat' row' del' op') ∧ (b = t.length → (if op' = true then (5, (t.length : Int), []) else (0, 0, flat')) = gPM t n b flat' row' del' op') := by
        intro b s' flat' row' del' op' h1 h2 h3 h4
        obtain ⟨n', rfl⟩ : ∃ n', n = n' + 1 := ⟨n - 1, by omega⟩
        refine ⟨fun hb => ?_, fun hb => ?_⟩
        · simp only [gPM]
          rw [if_pos hb, if_pos (h3 hb)]
          exact rC_gPM n' (b + 1) s' flat' row' del' op' (by omega) (by omega) h4
        · have hnb : ¬ b < t.length := by omega
          simp only [gPM, hnb, if_false]
      by_cases hsp : sp (t.getD i 0) = true
      · rw [if_pos hsp]
        have h1 := (class_sp _).2 hsp
        unfold pBegin
        rw [h1, if_neg (by decide), if_neg (by decide), if_neg (by decide), if_neg (by decide), if_neg (by decide)]
        exact rC_gPM n (i + 1) _ flat row del op (by omega) (by omega) ⟨h.state, h.err, h.at_, h.arena, h.pos, h.neg, h.good, h.del, h.opn⟩
      · rw [if_neg hsp]
        have hsf := Bool.eq_false_iff.2 hsp
        by_cases hc : t.getD i 0 = 99
        · rw [if_pos hc]
          have h4 := (class_c _).2 hc
          unfold pBegin
          rw [if_pos h4]
          have hnl : nl (t.getD i 0) = false := by rw [hc]; rfl
          rw [gFind_miss hlt hnl]
          have hle := fnd_le (p := nl) (t := t) (i := i + 1) (by omega)
          have hcm := rC_comment (t := t) _ (i + 1) { s with start := i, state := 1 } rfl (by omega) rfl h.err
          have hspn : gFind nl t (i + 1) < t.length → sp (t.getD (gFind nl t (i + 1)) 0) = true := by
            intro h0
            have := gFind_at (p := nl) _ (i + 1) rfl (by omega) h0
            have h9 : (t.getD (gFind nl t (i + 1)) 0 == 10) = true := this
            have h10 : t.getD (gFind nl t (i + 1)) 0 = 10 := eq_of_beq h9
            rw [h10]; rfl
          have hgo := go (gFind nl t (i + 1)) { s with start := i, state := 0 } flat row del op (by omega) hle.2 hspn ⟨rfl, h.err, h.at_, h.arena, h.pos, h.neg, h.good, h.del, h.opn⟩
          rcases Nat.lt_or_ge (gFind nl t (i + 1)) t.length with hb | hb
          · rw [hcm.1 hb]; exact hgo.1 hb
          · have hb2 : gFind nl t (i + 1) = t.length := by omega
            rw [hcm.2 hb2, ← hgo.2 hb2]
            dsimp only
            rw [h.opn, h.at_, h.arena]
        · rw [if_neg hc]
          have n4 : ¬ goClass (t.getD i 0).toNat = 4 := fun h0 => hc ((class_c _).1 h0)
          have n1 : ¬ goClass (t.getD i 0).toNat = 1 := fun h0 => hsp ((class_sp _).1 h0)
          by_cases hd : t.getD i 0 = 100
          · rw [if_pos hd]
            have h5 := (class_d _).2 hd
            unfold pBegin
            rw [if_neg n4, if_pos h5, h.opn]
            by_cases ho : op = true
            · rw [if_pos ho, if_pos ho, rC_err (by simp [pFail])]
              simp [pFail]
            · rw [if_neg ho, if_neg ho]
              have hfm := gFind_miss (p := sp) hlt hsf
              have hle := fnd_le (p := sp) (t := t) (i := i + 1) (by omega)
              have hbet : Bet { s with start := i, state := 0, del := true, opn := true } flat row true true := ⟨rfl, h.err, h.at_, h.arena, h.pos, h.neg, h.good, rfl, rfl⟩
              by_cases hi1 : i + 1 < t.length
              · rw [rC_step (s := { s with start := i, state := 4, del := true, opn := true }) h.err hi1, feed4 rfl]
                by_cases hs1 : sp (t.getD (i + 1) 0) = true
                · have h1 := (class_sp _).2 hs1
                  have hf1 : gFind sp t i = i + 1 := by rw [hfm, gFind_hit hi1 hs1]
                  rw [if_pos h1, hf1, if_neg (by omega)]
                  exact (go (i + 1) _ flat row true true (by omega) (by omega) (fun _ => hs1) hbet).1 hi1
                · have h1 : ¬ goClass (t.getD (i + 1) 0).toNat = 1 := fun h0 => hs1 ((class_sp _).1 h0)
                  have hf1 : i + 1 < gFind sp t i := by
                    rw [hfm, gFind_miss hi1 (Bool.eq_false_iff.2 hs1)]
                    have := fnd_le (p := sp) (t := t) (i := i + 1 + 1) (by omega)
                    omega
                  rw [if_neg h1, if_pos (by omega), rC_err (by simp [pFail])]
                  simp [pFail]
              · have hil : i + 1 = t.length := by omega
                have hf1 : gFind sp t i = i + 1 := by rw [hfm, fnd_end (by omega)]
                have e4 : pFeed { s with start := i, state := 4, del := true, opn := true } 32 t.length = { s with start := i, state := 0, del := true, opn := true } := by rw [feed4 rfl, if_pos class_32]
                rw [hf1, if_neg (by omega), rC_end (s := { s with start := i, state := 4, del := true, opn := true }) h.err (by omega), e4]
                have := (go (i + 1) _ flat row true true (by omega) (by omega) (fun h0 => by omega) hbet).2 hil
                rw [← this]
                simp [h.err]
          · rw [if_neg hd]
            have n5 : ¬ goClass (t.getD i 0).toNat = 5 := fun h0 => hd ((class_d _).1 h0)
            have hfm := gFind_miss (p := sp) hlt hsf
            have hle := fnd_le (p := sp) (t := t) (i := i + 1) (by omega)
            have hfs := find_sp (t := t) (i := i) (by omega)
            obtain ⟨b, hb⟩ : ∃ b, gFind sp t i = b := ⟨_, rfl⟩
            rw [← hfm, hb] at hle
            rw [hb] at hfs ⊢

            have fin : ∀ (v : Nat) (s2 : Pst), s2.val = v → s2.start = i → Bet { s2 with state := 0 } flat row del op → (rC t s (i + 0) = rC t s i → True) →
                ((b < t.length → rC t (pNumber { s2 with state := 0 }) (b + 1) = (if v = 0 ∧ s2.minus = true then (3, (i : Int), []) else if 12 < v then (4, (i : Int), []) else if v ≠ 0 then gPM t n b flat (row ++ [if s2.minus = true then -(v : Int) else (v : Int)]) del true else match gNorm row 12 1 [] with
                  | none => gPM t n b flat [] false false
                  | some l => gPM t n b (gRow flat del l) [] false false)) ∧
                 (b = t.length → (if (pNumber { s2 with state := 0 }).err ≠ 0 then ((pNumber { s2 with state := 0 }).err, (pNumber { s2 with state := 0 }).at_, []) else if (pNumber { s2 with state := 0 }).opn = true then (5, (t.length : Int), []) else (0, (pNumber { s2 with state := 0 }).at_, (pNumber { s2 with state := 0 }).arena)) = (if v = 0 ∧ s2.minus = true then (3, (i : Int), []) else if 12 < v then (4, (i : Int), []) else if v ≠ 0 then gPM t n b flat (row ++ [if s2.minus = true then -(v : Int) else (v : Int)]) del true else match gNorm row 12 1 [] with
                  | none => gPM t n b flat [] false false
                  | some l => gPM t n b (gRow flat del l) [] false false))) := by
              intro v s2 hv hst hbet _
              obtain ⟨q1, q2, q3, q4⟩ := number_bet (s := s2) hbet hv rfl
              by_cases c1 : v = 0 ∧ s2.minus = true
              · rw [q1 c1, if_pos c1]
                refine ⟨fun _ => ?_, fun _ => ?_⟩
                · rw [rC_err (by simp [pFail])]; simp [pFail, hst]
                · simp [pFail, hst]
              · rw [if_neg c1]
                by_cases c2 : 12 < v
                · rw [q2 c1 c2, if_pos c2]
                  refine ⟨fun _ => ?_, fun _ => ?_⟩
                  · rw [rC_err (by simp [pFail])]; simp [pFail, hst]
                  · simp [pFail, hst]
                · rw [if_neg c2]
                  by_cases c3 : v ≠ 0
                  · rw [if_pos c3]
                    have hb3 := q3 c1 c2 c3
                    have hgo := go b _ _ _ _ _ (by omega) hle.2 hfs.2 hb3
                    refine ⟨hgo.1, fun hbe => ?_⟩
                    rw [← hgo.2 hbe]
                    simp [hb3.err, hb3.opn, hb3.at_, hb3.arena]
                  · rw [if_neg c3]
                    have hb3 := q4 c1 c2 (by omega)
                    cases hg : gNorm row 12 1 [] with
                    | none =>
                      rw [hg] at hb3
                      dsimp only at hb3 ⊢
                      have hgo := go b _ _ _ _ _ (by omega) hle.2 hfs.2 hb3
                      refine ⟨hgo.1, fun hbe => ?_⟩
                      rw [← hgo.2 hbe]
                      simp [hb3.err, hb3.opn, hb3.at_, hb3.arena]
                    | some l =>
                      rw [hg] at hb3
                      dsimp only at hb3 ⊢
                      have hgo := go b _ _ _ _ _ (by omega) hle.2 hfs.2 hb3
                      refine ⟨hgo.1, fun hbe => ?_⟩
                      rw [← hgo.2 hbe]
                      simp [hb3.err, hb3.opn, hb3.at_, hb3.arena]

            have ans : ∀ (k : Nat) (neg : Bool), k < b → gNum t i b = gNumA t i b k neg → gBad t (b - k) k = none → ∀ v : Nat, (v : Int) = gV t (b - k) k 0 →
                (if (gNum t i b).2.2.1 ≠ 0 then ((gNum t i b).2.2.1, (gNum t i b).2.2.2, [])
                 else if (gNum t i b).1 ≠ 0 then gPM t n b flat (row ++ [if (gNum t i b).2.1 = true then -(gNum t i b).1 else (gNum t i b).1]) del true
                 else match gNorm row 12 1 [] with
                  | none => gPM t n b flat [] false false
                  | some l => gPM t n b (gRow flat del l) [] false false) =
                (if v = 0 ∧ neg = true then (3, (i : Int), []) else if 12 < v then (4, (i : Int), []) else if v ≠ 0 then gPM t n b flat (row ++ [if neg = true then -(v : Int) else (v : Int)]) del true else match gNorm row 12 1 [] with
                  | none => gPM t n b flat [] false false
                  | some l => gPM t n b (gRow flat del l) [] false false) := by
              intro k neg hkb hnum hbad v hv
              have e : gNum t i b = if (v : Int) = 0 ∧ neg = true then (0, false, 3, (i : Int)) else if 12 < (v : Int) then (0, false, 4, (i : Int)) else ((v : Int), neg, 0, 0) := by
                rw [hnum]
                unfold gNumA
                rw [hbad]
                dsimp only
                rw [if_neg (by omega), ← hv]
              rw [e]
              by_cases c1 : v = 0 ∧ neg = true
              · have c1' : (v : Int) = 0 ∧ neg = true := ⟨by omega, c1.2⟩
                simp only [if_pos c1, if_pos c1']
                simp
              · have c1' : ¬ ((v : Int) = 0 ∧ neg = true) := fun h0 => c1 ⟨by omega, h0.2⟩
                by_cases c2 : 12 < v
                · have c2' : 12 < (v : Int) := by omega
                  simp only [if_neg c1, if_neg c1', if_pos c2, if_pos c2']
                  simp
                · have c2' : ¬ 12 < (v : Int) := by omega
                  simp only [if_neg c1, if_neg c1', if_neg c2, if_neg c2']
                  by_cases c3 : v ≠ 0
                  · have c3' : (v : Int) ≠ 0 := by omega
                    rw [if_neg (by simp), if_pos c3', if_pos c3]
                  · have c3' : ¬ (v : Int) ≠ 0 := by omega
                    rw [if_neg (by simp), if_neg c3', if_neg c3]
            by_cases hm : t.getD i 0 = 45
            · have h3 := (class_minus _).2 hm
              have hnum : gNum t i b = gNumA t i b (i + 1) true := by unfold gNum; rw [if_pos hm]
              unfold pBegin
              rw [if_neg n4, if_neg n5, if_pos h3]
              by_cases hi1 : i + 1 < b
              · rw [rC_step (s := { s with start := i, state := 2, minus := true, val := 0 }) h.err (by omega), feed2 rfl]
                have hsf1 := hfs.1 (i + 1) (by omega) hi1
                have m1 : ¬ goClass (t.getD (i + 1) 0).toNat = 1 := fun h0 => by rw [(class_sp _).1 h0] at hsf1; cases hsf1
                by_cases hdg : isDig (t.getD (i + 1) 0) = true
                · have h2 := (class_dig _).2 hdg
                  have hdr : 48 ≤ (t.getD (i + 1) 0).toNat ∧ (t.getD (i + 1) 0).toNat ≤ 57 := of_decide_eq_true hdg
                  rw [if_pos h2]
                  have hdd := rC_digits (t := t) (b := b) hle.2 (fun _ _ => trivial) _ (i + 1 + 1) { s with start := i, state := 3, minus := true, val := (t.getD (i + 1) 0).toNat - 48 } rfl (by omega) rfl h.err (fun j h1 h2 => hfs.1 j (by omega) h2) hfs.2
                  have ef : b - (i + 1) = (b - (i + 1 + 1)) + 1 := by omega
                  have hbad1 : gBad t (b - (i + 1)) (i + 1) = gBad t (b - (i + 1 + 1)) (i + 1 + 1) := by rw [ef]; simp only [gBad]; rw [if_pos hdg]
                  have hv1 : gV t (b - (i + 1)) (i + 1) 0 = gV t (b - (i + 1 + 1)) (i + 1 + 1) (((t.getD (i + 1) 0).toNat - 48 : Nat) : Int) := by
                    rw [ef]; simp only [gV]
                    congr 1
                    unfold satur
                    split <;> omega
                  cases hbd : gBad t (b - (i + 1 + 1)) (i + 1 + 1) with
                  | some j =>
                    rw [hdd.1 j hbd, hnum]
                    unfold gNumA
                    rw [hbad1, hbd]
                    simp
                  | none =>
                    obtain ⟨v, hv, r1, r2⟩ := hdd.2 hbd
                    refine Eq.trans ?_ (ans (i + 1) true hi1 hnum (by rw [hbad1, hbd]) v (by rw [hv1]; exact hv)).symm
                    have hf := fin v { s with start := i, state := 3, minus := true, val := v } rfl rfl ⟨rfl, h.err, h.at_, h.arena, h.pos, h.neg, h.good, h.del, h.opn⟩ (fun _ => trivial)
                    rcases Nat.lt_or_ge b t.length with hbl | hbl
                    · rw [r1 hbl]; exact hf.1 hbl
                    · rw [r2 (by omega)]; exact hf.2 (by omega)
                · have h2 : ¬ goClass (t.getD (i + 1) 0).toNat = 2 := fun h0 => hdg ((class_dig _).1 h0)
                  rw [if_neg h2, if_neg m1, rC_err (by simp [pFail]), hnum]
                  have ef : b - (i + 1) = (b - (i + 1 + 1)) + 1 := by omega
                  unfold gNumA
                  rw [ef]
                  simp only [gBad]
                  rw [if_neg hdg]
                  simp [pFail]
              · have hib : i + 1 = b := by omega
                have hbad : gNumA t i b (i + 1) true = (0, false, 3, (i : Int)) := by
                  unfold gNumA
                  rw [hib, Nat.sub_self]
                  simp [gBad]
                rw [hnum, hbad]
                dsimp only
                rw [if_pos (by decide)]
                rcases Nat.lt_or_ge (i + 1) t.length with hbl | hbl
                · have hs1 : sp (t.getD (i + 1) 0) = true := by rw [hib]; exact hfs.2 (by omega)
                  have h1 := (class_sp _).2 hs1
                  rw [rC_step (s := { s with start := i, state := 2, minus := true, val := 0 }) h.err hbl, feed2 rfl, if_neg (by rw [h1]; decide), if_pos h1, rC_err (by simp [pFail])]
                  simp [pFail]
                · have e2 : pFeed { s with start := i, state := 2, minus := true, val := 0 } 32 t.length = pFail { s with start := i, state := 2, minus := true, val := 0 } 3 i := by rw [feed2 rfl, if_neg (by rw [class_32]; decide), if_pos class_32]
                  rw [rC_end (s := { s with start := i, state := 2, minus := true, val := 0 }) h.err hbl, e2]
                  simp [pFail]
            · have n3 : ¬ goClass (t.getD i 0).toNat = 3 := fun h0 => hm ((class_minus _).1 h0)
              have hnum : gNum t i b = gNumA t i b i false := by unfold gNum; rw [if_neg hm]
              unfold pBegin
              rw [if_neg n4, if_neg n5, if_neg n3]
              have hib : i < b := by omega
              have ef : b - i = (b - (i + 1)) + 1 := by omega
              by_cases hdg : isDig (t.getD i 0) = true
              · have h2 := (class_dig _).2 hdg
                have hdr : 48 ≤ (t.getD i 0).toNat ∧ (t.getD i 0).toNat ≤ 57 := of_decide_eq_true hdg
                rw [if_pos h2]
                have hdd := rC_digits (t := t) (b := b) hle.2 (fun _ _ => trivial) _ (i + 1) { s with start := i, state := 3, minus := false, val := (t.getD i 0).toNat - 48 } rfl (by omega) rfl h.err (fun j h1 h2 => hfs.1 j (by omega) h2) hfs.2
                have hbad1 : gBad t (b - i) i = gBad t (b - (i + 1)) (i + 1) := by rw [ef]; simp only [gBad]; rw [if_pos hdg]
                have hv1 : gV t (b - i) i 0 = gV t (b - (i + 1)) (i + 1) (((t.getD i 0).toNat - 48 : Nat) : Int) := by
                  rw [ef]; simp only [gV]
                  congr 1
                  unfold satur
                  split <;> omega
                cases hbd : gBad t (b - (i + 1)) (i + 1) with
                | some j =>
                  rw [hdd.1 j hbd, hnum]
                  unfold gNumA
                  rw [hbad1, hbd]
                  simp
                | none =>
                  obtain ⟨v, hv, r1, r2⟩ := hdd.2 hbd
                  refine Eq.trans ?_ (ans i false hib hnum (by rw [hbad1, hbd]) v (by rw [hv1]; exact hv)).symm
                  have hf := fin v { s with start := i, state := 3, minus := false, val := v } rfl rfl ⟨rfl, h.err, h.at_, h.arena, h.pos, h.neg, h.good, h.del, h.opn⟩ (fun _ => trivial)
                  rcases Nat.lt_or_ge b t.length with hbl | hbl
                  · rw [r1 hbl]; exact hf.1 hbl
                  · rw [r2 (by omega)]; exact hf.2 (by omega)
              · have h2 : ¬ goClass (t.getD i 0).toNat = 2 := fun h0 => hdg ((class_dig _).1 h0)
                have h0 : goClass (t.getD i 0).toNat = 0 := by omega
                have hgb : gBad t (b - i) i = some i := by rw [ef]; simp only [gBad]; rw [if_neg hdg]
                have hga : gNumA t i b i false = (0, false, 2, (i : Int)) := by unfold gNumA; rw [hgb]
                rw [if_neg h2, if_pos h0, rC_err (by simp [pFail]), hnum, hga]
                simp [pFail]
    · have e0 : pFeed s 32 t.length = { s with start := t.length } := by
        rw [feed0 h.state]
        unfold pBegin
        rw [class_32, if_neg (by decide), if_neg (by decide), if_neg (by decide), if_neg (by decide), if_neg (by decide)]
      rw [if_neg hlt, rC_end h.err (by omega), e0]
      simp [h.err, h.opn, h.at_, h.arena]
theorem rParse_eq (t : List UInt8) : rParse t = gParse t := by
  by_cases h : 1048576 < t.length
  · unfold rParse gParse; rw [if_pos h, if_pos h]
  · rw [rParse_rC h]
    unfold gParse
    rw [if_neg h]
    exact rC_gPM (t.length + 1) 0 Pst.rest [] [] false false (by omega) (by omega) ⟨rfl, rfl, rfl, rfl, fun v => by simp [Pst.rest, noV], fun v => by simp [Pst.rest, noV], by simp, rfl, rfl⟩
end Go.Proofs.Qxb6500974aGreat
