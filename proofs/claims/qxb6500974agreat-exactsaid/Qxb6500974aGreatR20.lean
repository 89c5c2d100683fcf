import Derived.Test.Qxb6500974aGreatR19
set_option linter.all false
set_option linter.unusedSimpArgs false
set_option linter.unusedVariables false
namespace Go.Proofs.Qxb6500974aGreat
open Go.Eng
variable {W0 : World}

def slotsA (S : Slots) : Nat → List (List Int)
  | 0 => []
  | n + 1 => slotsA S n ++ (S n).toList
theorem slots_mem {S : Slots} {x : List Int} : ∀ {n : Nat}, x ∈ slotsA S n ↔ ∃ s, s < n ∧ S s = some x
  | 0 => by simp [slotsA]
  | n + 1 => by
    simp only [slotsA, List.mem_append, slots_mem (n := n), Option.mem_toList]
    constructor
    · rintro (⟨s, h1, h2⟩ | h)
      · exact ⟨s, by omega, h2⟩
      · exact ⟨n, by omega, h⟩
    · rintro ⟨s, h1, h2⟩
      by_cases he : s = n
      · subst he; exact .inr h2
      · exact .inl ⟨s, by omega, h2⟩
theorem slots_out {S : Slots} {s : Nat} {o : Option (List Int)} : ∀ {n : Nat}, n ≤ s → slotsA (fupd S s o) n = slotsA S n
  | 0, _ => rfl
  | n + 1, h => by simp only [slotsA]; rw [slots_out (by omega), fupd_ne _ _ (by omega)]
theorem slots_set {S : Slots} {s : Nat} {l : List Int} (hs : S s = none) : ∀ {n : Nat}, s < n → (slotsA (fupd S s (some l)) n).Perm (l :: slotsA S n)
  | 0, h => by omega
  | n + 1, h => by
    simp only [slotsA]
    by_cases he : s = n
    · subst he
      rw [slots_out (Nat.le_refl _), fupd_at, hs]
      simp only [Option.toList]
      rw [List.append_nil]
      exact List.perm_append_singleton _ _
    · rw [fupd_ne _ _ (fun h0 => he h0.symm)]
      exact ((slots_set hs (by omega)).append_right _)
theorem slots_drop {S : Slots} {s : Nat} {l : List Int} (hs : S s = some l) {n : Nat} (hn : s < n) : (slotsA S n).Perm (l :: slotsA (fupd S s none) n) := by
  have e : fupd (fupd S s none) s (some l) = S := by
    funext i
    by_cases he : i = s
    · subst he; rw [fupd_at, hs]
    · rw [fupd_ne _ _ he, fupd_ne _ _ he]
  have := slots_set (S := fupd S s none) (l := l) (fupd_at _ _ _) hn
  rw [e] at this
  exact this
theorem slots_len {S : Slots} : ∀ {n : Nat}, (slotsA S n).length ≤ n ∧ ((slotsA S n).length = n ↔ ∀ s, s < n → S s ≠ none)
  | 0 => by simp [slotsA]
  | n + 1 => by
    simp only [slotsA, List.length_append]
    obtain ⟨h1, h2⟩ := slots_len (S := S) (n := n)
    cases hS : S n with
    | none =>
      simp only [Option.toList, List.length_nil]
      refine ⟨by omega, ⟨fun h => by omega, fun h => absurd hS (h n (by omega))⟩⟩
    | some l =>
      simp only [Option.toList, List.length_singleton]
      refine ⟨by omega, ⟨fun h s hs => ?_, fun h => ?_⟩⟩
      · by_cases he : s = n
        · subst he; rw [hS]; simp
        · exact h2.1 (by omega) s (by omega)
      · have := h2.2 (fun s hs => h s (by omega)); omega
def Rel (S : Slots) (L : List (List Int)) : Prop := (slotsA S 64).Perm L
theorem Rel.mem {S : Slots} {L : List (List Int)} (h : Rel S L) (x : List Int) : x ∈ L ↔ ∃ s, s < 64 ∧ S s = some x := by rw [← h.mem_iff, slots_mem]
theorem Rel.len {S : Slots} {L : List (List Int)} (h : Rel S L) : L.length ≤ 64 := by rw [← h.length_eq]; exact slots_len.1
theorem Rel.free {S : Slots} {L : List (List Int)} (h : Rel S L) : L.length < 64 ↔ ∃ s, s < 64 ∧ S s = none := by
  have h1 := slots_len (S := S) (n := 64)
  rw [h.length_eq] at h1
  constructor
  · intro hl
    refine Classical.byContradiction fun h0 => ?_
    have : L.length = 64 := h1.2.2 fun s hs hn => h0 ⟨s, hs, hn⟩
    omega
  · rintro ⟨s, hs, hn⟩
    have : ¬ L.length = 64 := fun h0 => h1.2.1 h0 s hs hn
    have := h1.1
    omega
theorem Rel.put {S : Slots} {L : List (List Int)} (h : Rel S L) {s : Nat} {l : List Int} (hs : s < 64) (hn : S s = none) : Rel (fupd S s (some l)) (L ++ [l]) :=
  ((slots_set hn hs).trans (h.cons l)).trans (List.perm_append_singleton l L).symm
theorem Rel.nil : Rel emptyS [] := by
  have : ∀ n, slotsA emptyS n = [] := by
    intro n
    induction n with
    | zero => rfl
    | succ n ih => simp only [slotsA, ih]; rfl
  unfold Rel
  rw [this]

theorem cload_spec {k p : Nat} {R : List (Bool × List Int)} {a : Option Addr} {n cc : Nat} {K : Value → Mem → Prop} {m : Mem} (h : ChAt m k p emptyS) (hf : FzI m a n (flatOf R)) (hlen : (flatOf R).length < 2 ^ 40) (hnf : ∀ r ∈ R, NF r.2) (hR : R.length ≤ 40)
    (hK : ∀ S m', m'.Ok → Kp [k] m m' → ChAt m' k p S → Rel S (R.map Prod.snd) → K (.tuple #[]) m') : callOK Tryz.prog W0 39 [ptr k 0, .slice a n cc] K m := by
  refine callOK_ok fun ok => call39 ?_
  have hn := hf.len
  unfold s39
  refine loop39_1 (γ := List (Bool × List Int) × List (Bool × List Int) × Slots) (fun g at_ m' => R = g.1 ++ g.2.1 ∧ at_ = (((flatOf g.1).length : Nat) : Int) ∧ m'.Ok ∧ Kp [k] m m' ∧ ChAt m' k p g.2.2 ∧ Rel g.2.2 (g.1.map Prod.snd)) (fun g _ => g.2.1.length) ([], R, emptyS)
    ⟨rfl, rfl, ok, Kp.refl _ _, h, Rel.nil⟩ ?_
  rintro ⟨A, Bs, S⟩ at_ m1 ⟨hAB, rfl, ok1, kp1, h1, hrel⟩
  dsimp only at hAB h1 hrel ⊢
  have fapp : ∀ X Y : List (Bool × List Int), flatOf (X ++ Y) = flatOf X ++ flatOf Y := by
    intro X Y
    induction X with
    | nil => rfl
    | cons x xs ih => simp [flatOf, ih]
  have hfl : flatOf R = flatOf A ++ flatOf Bs := by rw [hAB, fapp]
  have hll := congrArg List.length hfl
  rw [List.length_append] at hll
  unfold s39_1
  cases Bs with
  | nil =>
    have e0 : (flatOf ([] : List (Bool × List Int))).length = 0 := rfl
    rw [e0] at hll
    refine ifB_lt (fun h0 => ?_) (fun _ => ?_)
    · have hF : False := by omega
      cases hF
    rw [e39_1x0]
    rw [List.append_nil] at hAB
    subst hAB
    exact hK S m1 ok1 kp1 h1 hrel
  | cons r rs =>
    have hpos : 0 < (flatOf (r :: rs)).length := by simp [flatOf]; omega
    have hcat : flatOf (r :: rs) = flatOf [r] ++ flatOf rs := fapp [r] rs
    refine ifB_lt (fun _ => ?_) (fun h0 => ?_)
    case refine_2 =>
      have hF : False := by omega
      cases hF
    have hnr := hnf r (by rw [hAB]; simp)
    refine read_spec (hf.keep kp1) hlen (r := r) (pre := flatOf A) (tl := flatOf rs) (by rw [hfl, hcat, List.append_assoc]) rfl hnr ?_
    intro pb nb m2 ok2 kp2 hb
    refine ⟨_, _, _, _, rfl, ?_⟩
    rw [zero131]
    intro b3 hb3
    have hk3 := Kp.new (S := []) ok2 hb3 (Blk.ofList [(.int .u16 0), (.int .u16 0), (.bool false), (.int .i64 0)])
    have bn3 : BlkN (m2.new b3 (Blk.ofList [(.int .u16 0), (.int .u16 0), (.bool false), (.int .i64 0)])) b3 4 := BlkN.new b3 (by simp)
    have ok3 := ok2.new hb3 (Blk.ofList [(.int .u16 0), (.int .u16 0), (.bool false), (.int .i64 0)])
    generalize m2.new b3 (Blk.ofList [(.int .u16 0), (.int .u16 0), (.bool false), (.int .i64 0)]) = m3 at hk3 bn3 ok3
    refine stL_put ok3 bn3 (by simp) (by intro v hv; simp at hv; rcases hv with rfl | rfl | rfl | rfl <;> rfl) (by simp) ?_
    intro m4 ok4 kp4 row4 bn4
    obtain ⟨r0, r1, r2, r3, _⟩ := row4
    have hklt := h1.lt ok1
    have top2 := kp2.top
    have topm := kp1.top
    have nk3 : k ∉ [b3] := by simp; omega
    have h4 := ((h1.keep kp2 (by simp)).keep hk3 (by simp)).keep kp4 nk3
    have kk4 : Kp [k] m m4 := ((kp1.trans kp2.of_nil).trans hk3.of_nil).step kp4 ok (fun b' hb' => .inr (by simp at hb'; omega))
    refine ⟨_, r0, _, r1, ?_⟩
    have hfree : ∃ s, s < 64 ∧ S s = none := hrel.free.1 (by
      have := congrArg List.length hAB
      simp at this ⊢
      omega)
    refine cput_spec h4 hb hnr hfree ?_
    intro s m5 hs hsn ok5 kp5 h5
    refine ⟨rfl, ?_⟩
    refine ⟨_, kp5.cell (by simp; omega) r3, ?_⟩
    refine ⟨(A ++ [r], rs, fupd S s (some r.2)), _, rfl, ⟨by rw [hAB]; simp, ?_, ok5, kk4.trans kp5, h5, ?_⟩, by simp⟩
    · dsimp only; rw [fapp]; simp
    · dsimp only
      rw [List.map_append]
      exact hrel.put hs hsn

def gTurn (L : List (List Int)) (r : Bool × List Int) : Int × List (List Int) :=
  if r.1 = true then (match gAt r.2 0 L with | none => (19, L) | some k => (0, L.eraseIdx k))
  else if gRup L r.2 = false then (18, L)
  else if 64 ≤ L.length then (12, L)
  else (0, L ++ [r.2])
theorem gMC_turn (i : Nat) (L : List (List Int)) (r : Bool × List Int) (rs : List (Bool × List Int)) : gMC i L (r :: rs) = if (gTurn L r).1 ≠ 0 then ((gTurn L r).1, 2, (i : Int)) else gMC (i + 1) (gTurn L r).2 rs := by
  simp only [gMC]
  unfold gTurn
  by_cases hd : r.1 = true
  · rw [if_pos hd, if_pos hd]
    cases gAt r.2 0 L with
    | none => simp
    | some k => simp
  · rw [if_neg hd, if_neg hd]
    by_cases hr : gRup L r.2 = false
    · rw [if_pos hr, if_pos hr]; simp
    · rw [if_neg hr, if_neg hr]
      by_cases hl : 64 ≤ L.length
      · rw [if_pos hl, if_pos hl]; simp
      · rw [if_neg hl, if_neg hl]; simp
theorem gAt_none {c : List Int} : ∀ {L : List (List Int)} {k : Nat}, gAt c k L = none → c ∉ L
  | [], _, _ => by simp
  | x :: xs, k, h => by
    simp only [gAt] at h
    split at h
    · cases h
    · rename_i hne
      have := gAt_none h
      simp only [List.mem_cons, not_or]
      exact ⟨fun h0 => hne h0.symm, this⟩
theorem gAt_some {c : List Int} : ∀ {L : List (List Int)} {k j : Nat}, gAt c k L = some j → k ≤ j ∧ L.Perm (c :: L.eraseIdx (j - k))
  | [], _, _, h => by simp [gAt] at h
  | x :: xs, k, j, h => by
    simp only [gAt] at h
    split at h
    · rename_i he
      cases h
      subst he
      exact ⟨Nat.le_refl _, by simp⟩
    · obtain ⟨h1, h2⟩ := gAt_some h
      refine ⟨by omega, ?_⟩
      have e : j - k = (j - (k + 1)) + 1 := by omega
      rw [e, List.eraseIdx_cons_succ]
      exact (h2.cons x).trans (List.Perm.swap _ _ _)
theorem full_iff {x : Int} (h : U64 x) : x = 18446744073709551615 ↔ ∀ s, s < 64 → tb x s = true := by
  have hf : U64 18446744073709551615 := ⟨by omega, by omega⟩
  have hb : ∀ i, i < 64 → tb 18446744073709551615 i = true := by
    intro i hi
    have e : (18446744073709551615 : Int).toNat = 2 ^ 64 - 1 := rfl
    unfold tb
    rw [e, Nat.testBit_two_pow_sub_one]
    simp [hi]
  constructor
  · rintro rfl; exact hb
  · intro h0
    exact u64_ext h hf fun i hi => by rw [h0 i hi, hb i hi]
theorem turn_spec {k p : Nat} {S : Slots} {L : List (List Int)} {r : Bool × List Int} {pb nb nx : Int} {K : Value → Mem → Prop} {m : Mem} (h : ChAt m k p S) (hrel : Rel S L) (hb : RowBits pb nb r.2) (hl : NF r.2)
    (hK : ∀ S' m', m'.Ok → Kp [k] m m' → ChAt m' k p S' → Rel S' (gTurn L r).2 → K (.int .i64 (gTurn L r).1) m') : callOK Tryz.prog W0 71 [ptr k 0, .agg #[(.int .u16 pb), (.int .u16 nb), (.bool r.1), (.int .i64 nx)]] K m := by
  refine callOK_ok fun ok => call71 ?_
  have hklt := h.lt ok
  unfold s71
  intro b1 hb1
  have hk1 := Kp.new (S := []) ok hb1 (Blk.ofList [(.int .u16 pb), (.int .u16 nb), (.bool r.1), (.int .i64 nx)])
  have c0 : (m.new b1 (Blk.ofList [(.int .u16 pb), (.int .u16 nb), (.bool r.1), (.int .i64 nx)])).cell b1 0 = some (.int .u16 pb) := by simp [Mem.cell, Mem.new_at, Blk.ofList]
  have c1 : (m.new b1 (Blk.ofList [(.int .u16 pb), (.int .u16 nb), (.bool r.1), (.int .i64 nx)])).cell b1 1 = some (.int .u16 nb) := by simp [Mem.cell, Mem.new_at, Blk.ofList]
  have c2 : (m.new b1 (Blk.ofList [(.int .u16 pb), (.int .u16 nb), (.bool r.1), (.int .i64 nx)])).cell b1 2 = some (.bool r.1) := by simp [Mem.cell, Mem.new_at, Blk.ofList]
  have ok1 := ok.new hb1 (Blk.ofList [(.int .u16 pb), (.int .u16 nb), (.bool r.1), (.int .i64 nx)])
  generalize m.new b1 (Blk.ofList [(.int .u16 pb), (.int .u16 nb), (.bool r.1), (.int .i64 nx)]) = m1 at hk1 c0 c1 c2 ok1
  have h1 := h.keep hk1 (by simp)
  refine ⟨_, c2, ?_⟩
  unfold gTurn at hK
  refine ifB_of (fun hd => ?_) (fun hd => ?_)
  · rw [if_pos hd] at hK
    refine ⟨_, c0, _, c1, ?_⟩
    refine seek_spec h1 hb hl ⟨_, rfl, ?_⟩
    have hm := hrel.mem r.2
    rcases firstB_is (fun s => decide (S s = some r.2)) 64 0 with ⟨e, hno⟩ | ⟨s, e, _, hs, hyes⟩
    · have hat : gAt r.2 0 L = none := by
        cases hg : gAt r.2 0 L with
        | none => rfl
        | some j =>
          have hin : r.2 ∈ L := (gAt_some hg).2.mem_iff.2 (by simp)
          obtain ⟨s, hs, hS⟩ := hm.1 hin
          have := hno s (by omega) (by omega)
          simp [hS] at this
      rw [hat] at hK
      dsimp only at hK
      rw [e]
      with_reducible refine ifB_lt (fun _ => ?_) (fun h0 => ?_)
      · exact hK S m1 ok1 hk1.of_nil h1 hrel
      · have hF : False := by omega
        cases hF
    · have hS : S s = some r.2 := of_decide_eq_true hyes
      have hin : r.2 ∈ L := hm.2 ⟨s, by omega, hS⟩
      obtain ⟨j, hg⟩ : ∃ j, gAt r.2 0 L = some j := by
        cases hg : gAt r.2 0 L with
        | none => exact absurd hin (gAt_none hg)
        | some j => exact ⟨j, rfl⟩
      rw [hg] at hK
      dsimp only at hK
      rw [e]
      refine ifB_lt (fun h0 => ?_) (fun _ => ?_)
      · have hF : False := by omega
        cases hF
      refine cdrop_spec h1 (by omega) hS ?_
      intro m2 ok2 kp2 h2
      refine ⟨rfl, hK _ m2 ok2 (hk1.of_nil.trans kp2) h2 ?_⟩
      have a1 := slots_drop hS (n := 64) (by omega)
      have a2 := (gAt_some hg).2
      rw [Nat.sub_zero] at a2
      exact (List.perm_cons _).1 (a1.symm.trans (hrel.trans a2))
  · rw [if_neg (by rw [hd]; simp)] at hK
    refine ⟨_, c0, _, c1, ?_⟩
    refine crup_spec (L := L) h1 hb hl (fun x => hrel.mem x) ⟨_, rfl, ?_⟩
    refine ifB_not (fun hf => ?_) (fun hf => ?_)
    · rw [if_pos hf] at hK
      exact hK S m1 ok1 hk1.of_nil h1 hrel
    · rw [if_neg (by rw [hf]; simp)] at hK
      have h1' := h1
      obtain ⟨c, q1, q2, q3⟩ := h1'
      refine ⟨_, q1.used, ?_⟩
      have hfull := full_iff q3.used.1
      have hfree := hrel.free
      refine ifB_eq (fun he => ?_) (fun he => ?_)
      · have h64 : 64 ≤ L.length := by
          rcases Nat.lt_or_ge L.length 64 with h0 | h0
          · obtain ⟨s, hs, hn⟩ := hfree.1 h0
            have := hfull.1 he s hs
            rw [q3.used.2 s hs, hn] at this
            cases this
          · exact h0
        rw [if_pos h64] at hK
        exact hK S m1 ok1 hk1.of_nil h1 hrel
      · have h64 : ¬ 64 ≤ L.length := by
          intro h0
          apply he
          refine hfull.2 fun s hs => ?_
          rw [q3.used.2 s hs]
          cases hS : S s with
          | none => have := hfree.2 ⟨s, hs, hS⟩; omega
          | some l => rfl
        rw [if_neg h64] at hK
        refine ⟨_, c0, _, c1, ?_⟩
        refine cput_spec h1 hb hl (hfree.1 (by omega)) ?_
        intro s m2 hs hn ok2 kp2 h2
        exact ⟨rfl, hK _ m2 ok2 (hk1.of_nil.trans kp2) h2 (hrel.put hs hn)⟩

theorem refused_spec {e w i : Int} {K : Value → Mem → Prop} {m : Mem} (hK : ∀ m', m'.Ok → Kp [] m m' → K (.agg #[(.int .i64 e), (.int .i64 w), (.int .i64 i)]) m') : callOK Tryz.prog W0 36 [.int .i64 e, .int .i64 w, .int .i64 i] K m := by
  refine callOK_ok fun ok => call36 ?_
  unfold s36
  rw [zero41]
  intro b1 hb1
  have hk1 := Kp.new (S := []) ok hb1 (Blk.ofList [(.int .i64 0), (.int .i64 0), (.int .i64 0)])
  have bn1 : BlkN (m.new b1 (Blk.ofList [(.int .i64 0), (.int .i64 0), (.int .i64 0)])) b1 3 := BlkN.new b1 (by simp)
  have ok1 := ok.new hb1 (Blk.ofList [(.int .i64 0), (.int .i64 0), (.int .i64 0)])
  refine stl3 ok1 bn1 ?_
  intro m2 ok2 kp2
  exact hK m2 ok2 (hk1.step kp2 ok (fun b' hb' => .inr (by simp at hb'; omega)))
theorem cnt_zero {f : Nat → Bool} : ∀ {n : Nat}, cntB f n = 0 ↔ ∀ i, i < n → f i = false
  | 0 => by simp [cntB]
  | n + 1 => by
    simp only [cntB]
    have ih := cnt_zero (f := f) (n := n)
    constructor
    · intro h i hi
      by_cases he : i = n
      · subst he
        rw [Bool.eq_false_iff]
        intro h0
        rw [if_pos h0] at h; omega
      · exact ih.1 (by omega) i (by omega)
    · intro h
      rw [ih.2 (fun i hi => h i (by omega)), h n (by omega)]; rfl
theorem follow_spec {k p : Nat} {S : Slots} {L : List (List Int)} {R : List (Bool × List Int)} {a : Option Addr} {n cc : Nat} {K : Value → Mem → Prop} {m : Mem} (h : ChAt m k p S) (hrel : Rel S L) (hf : FzI m a n (flatOf R)) (hlen : (flatOf R).length < 2 ^ 40) (hnf : ∀ r ∈ R, NF r.2)
    (hK : ∀ S' m', m'.Ok → Kp [k] m m' → ChAt m' k p S' → K (.agg #[(.int .i64 (gMC 0 L R).1), (.int .i64 (gMC 0 L R).2.1), (.int .i64 (gMC 0 L R).2.2)]) m') : callOK Tryz.prog W0 40 [ptr k 0, .slice a n cc] K m := by
  refine callOK_ok fun ok => call40 ?_
  have hn := hf.len
  have hklt := h.lt ok
  unfold s40
  rw [zero41]
  intro b1 hb1
  have hk1 := Kp.new (S := []) ok hb1 (Blk.ofList [(.int .i64 0), (.int .i64 0), (.int .i64 0)])
  have bn1 : BlkN (m.new b1 (Blk.ofList [(.int .i64 0), (.int .i64 0), (.int .i64 0)])) b1 3 := BlkN.new b1 (by simp)
  have ok1 := ok.new hb1 (Blk.ofList [(.int .i64 0), (.int .i64 0), (.int .i64 0)])
  generalize m.new b1 (Blk.ofList [(.int .i64 0), (.int .i64 0), (.int .i64 0)]) = m1 at hk1 bn1 ok1
  have nb1 : b1 ∉ [k] := by simp; omega
  have nk1 : k ∉ [b1] := by simp; omega
  have wr1 : ∀ {m5 m6 : Mem}, Kp [k] m m5 → Kp [b1] m5 m6 → Kp [k] m m6 := fun h h' => h.step h' ok (fun b' hb' => .inr (by simp at hb'; omega))
  obtain ⟨v, hv⟩ : ∃ v, gMC 0 L R = v := ⟨_, rfl⟩
  rw [hv] at hK
  refine loop40_1 (γ := List (Bool × List Int) × List (Bool × List Int) × Slots × List (List Int)) (fun g at_ n6 m' => R = g.1 ++ g.2.1 ∧ at_ = (((flatOf g.1).length : Nat) : Int) ∧ n6 = ((g.1.length : Nat) : Int) ∧ m'.Ok ∧ Kp [k] m m' ∧ BlkN m' b1 3 ∧ ChAt m' k p g.2.2.1 ∧ Rel g.2.2.1 g.2.2.2 ∧ gMC g.1.length g.2.2.2 g.2.1 = v) (fun g _ _ => g.2.1.length) ([], R, S, L)
    ⟨rfl, rfl, rfl, ok1, hk1.of_nil, bn1, h.keep hk1 (by simp), hrel, hv⟩ ?_
  rintro ⟨A, Bs, S2, L2⟩ at_ n6 m2 ⟨hAB, rfl, rfl, ok2, kp2, bn2, h2, hrel2, hj⟩
  dsimp only at hAB h2 hrel2 hj ⊢
  have fapp : ∀ X Y : List (Bool × List Int), flatOf (X ++ Y) = flatOf X ++ flatOf Y := by
    intro X Y
    induction X with
    | nil => rfl
    | cons x xs ih => simp [flatOf, ih]
  have hfl : flatOf R = flatOf A ++ flatOf Bs := by rw [hAB, fapp]
  have hll := congrArg List.length hfl
  rw [List.length_append] at hll
  have lenF : ∀ X : List (Bool × List Int), X.length ≤ (flatOf X).length := by
    intro X
    induction X with
    | nil => simp [flatOf]
    | cons x xs ih => simp [flatOf]; omega
  have hAl := lenF A
  unfold s40_1
  cases Bs with
  | nil =>
    have e0 : (flatOf ([] : List (Bool × List Int))).length = 0 := rfl
    rw [e0] at hll
    refine ifB_lt (fun h0 => ?_) (fun _ => ?_)
    · have hF : False := by omega
      cases hF
    rw [e40_1x0]
    unfold s40_1x0
    simp only [gMC] at hj
    have h2' := h2
    obtain ⟨c, q1, q2, q3⟩ := h2'
    refine ⟨_, q1.empties, ?_⟩
    rw [q3.emp]
    have hz : cntB (fun s => decide (S2 s = some [])) 64 = 0 ↔ ¬ (L2.any fun l => decide (l.length = 0)) = true := by
      rw [cnt_zero]
      constructor
      · intro h0 h1
        obtain ⟨l, hl1, hl2⟩ := List.any_eq_true.1 h1
        have : l = [] := List.length_eq_zero_iff.1 (of_decide_eq_true hl2)
        subst this
        obtain ⟨s, hs, hS⟩ := (hrel2.mem []).1 hl1
        have := h0 s hs
        simp [hS] at this
      · intro h0 s hs
        refine decide_eq_false fun hS => h0 ?_
        exact List.any_eq_true.2 ⟨[], (hrel2.mem []).2 ⟨s, hs, hS⟩, by simp⟩
    refine ifB_eq (fun he => ?_) (fun he => ?_)
    · rw [if_neg (hz.1 (by omega))] at hj
      subst hj
      refine refused_spec ?_
      intro m3 ok3 kp3
      refine ⟨_, _, _, rfl, ?_⟩
      refine stl3 ok3 (bn2.keep kp3 (by simp)) ?_
      intro m4 ok4 kp4
      exact hK S2 m4 ok4 (wr1 (kp2.trans kp3.of_nil) kp4) ((h2.keep kp3 (by simp)).keep kp4 nk1)
    · have : (L2.any fun l => decide (l.length = 0)) = true := by
        refine Classical.byContradiction fun h0 => he ?_
        rw [hz.2 h0]; rfl
      rw [if_pos this] at hj
      subst hj
      refine stl3 ok2 bn2 ?_
      intro m4 ok4 kp4
      exact hK S2 m4 ok4 (wr1 kp2 kp4) (h2.keep kp4 nk1)
  | cons r rs =>
    have hpos : 0 < (flatOf (r :: rs)).length := by simp [flatOf]; omega
    have hcat : flatOf (r :: rs) = flatOf [r] ++ flatOf rs := fapp [r] rs
    refine ifB_lt (fun _ => ?_) (fun h0 => ?_)
    case refine_2 =>
      have hF : False := by omega
      cases hF
    have hnr := hnf r (by rw [hAB]; simp)
    refine read_spec (hf.keep kp2) hlen (r := r) (pre := flatOf A) (tl := flatOf rs) (by rw [hfl, hcat, List.append_assoc]) rfl hnr ?_
    intro pb nb m3 ok3 kp3 hb
    refine ⟨_, _, _, _, rfl, ?_⟩
    rw [zero131]
    intro b4 hb4
    have hk4 := Kp.new (S := []) ok3 hb4 (Blk.ofList [(.int .u16 0), (.int .u16 0), (.bool false), (.int .i64 0)])
    have bn4 : BlkN (m3.new b4 (Blk.ofList [(.int .u16 0), (.int .u16 0), (.bool false), (.int .i64 0)])) b4 4 := BlkN.new b4 (by simp)
    have ok4 := ok3.new hb4 (Blk.ofList [(.int .u16 0), (.int .u16 0), (.bool false), (.int .i64 0)])
    generalize m3.new b4 (Blk.ofList [(.int .u16 0), (.int .u16 0), (.bool false), (.int .i64 0)]) = m4 at hk4 bn4 ok4
    refine stL_put ok4 bn4 (by simp) (by intro v hv; simp at hv; rcases hv with rfl | rfl | rfl | rfl <;> rfl) (by simp) ?_
    intro m5 ok5 kp5 row5 bn5
    obtain ⟨r0, r1, r2, r3, _⟩ := row5
    have top2 := kp2.top
    have top3 := kp3.top
    have b1lt := bn2.lt ok2
    have nk4 : k ∉ [b4] := by simp; omega
    have nb4 : b1 ∉ [b4] := by simp; omega
    have n4k : b4 ∉ [k] := by simp; omega
    have h5 := ((h2.keep kp3 (by simp)).keep hk4 (by simp)).keep kp5 nk4
    have bn15 := ((bn2.keep kp3 (by simp)).keep hk4 (by simp)).keep kp5 nb4
    have kk5 : Kp [k] m m5 := ((kp2.trans kp3.of_nil).trans hk4.of_nil).step kp5 ok (fun b' hb' => .inr (by simp at hb'; omega))
    refine ⟨_, r0, _, r1, _, r2, _, r3, ?_⟩
    refine turn_spec h5 hrel2 hb hnr ?_
    intro S6 m6 ok6 kp6 h6 hrel6
    rw [gMC_turn] at hj
    generalize gTurn L2 r = q at hj hrel6 ⊢
    obtain ⟨e6, L6⟩ := q
    dsimp only at hj hrel6 ⊢
    refine ⟨_, rfl, ?_⟩
    have kk6 := kk5.trans kp6
    have bn16 := bn15.keep kp6 nb1
    refine ifB_ne (fun hne => ?_) (fun he => ?_)
    · rw [if_pos hne] at hj
      subst hj
      refine refused_spec ?_
      intro m7 ok7 kp7
      refine ⟨_, _, _, rfl, ?_⟩
      refine stL_put ok7 (bn16.keep kp7 (by simp)) (by simp) (by intro v hv; simp at hv; rcases hv with rfl | rfl | rfl <;> rfl) (by simp) ?_
      intro m8 ok8 kp8 row8 _
      rw [e40_1r]
      unfold s40_1r
      obtain ⟨s0, s1, s2, _⟩ := row8
      refine ⟨_, s0, _, s1, _, s2, ?_⟩
      exact hK S6 m8 ok8 (wr1 (kk6.trans kp7.of_nil) kp8) ((h6.keep kp7 (by simp)).keep kp8 nk1)
    · rw [if_neg (by simpa using he)] at hj
      refine ⟨_, kp6.cell n4k r3, ?_⟩
      refine ⟨(A ++ [r], rs, S6, L6), _, _, rfl, ⟨by rw [hAB]; simp, ?_, ?_, ok6, kk6, bn16, h6, hrel6, ?_⟩, by simp⟩
      · dsimp only; rw [fapp]; simp
      · dsimp only
        rw [wrap_i64 (by omega) (by omega)]; simp
      · dsimp only
        rw [List.length_append]; exact hj
end Go.Proofs.Qxb6500974aGreat
