import Derived.Test.Qxb6500974aGreatP11
set_option linter.all false
set_option linter.unusedSimpArgs false
set_option linter.unusedVariables false
namespace Go.Proofs.Qxb6500974aGreat
open Go.Eng

theorem feeds_append : ∀ (a b : List UInt8) (i : Nat) (s : Pst), (gFeeds a i s).err = 0 → gFeeds (a ++ b) i s = gFeeds b (i + a.length) (gFeeds a i s)
  | [], b, i, s, h => by simp [gFeeds]
  | c :: a, b, i, s, h => by
    simp only [gFeeds] at h
    simp only [List.cons_append, gFeeds, List.length_cons]
    split at h
    · rename_i h0
      rw [if_pos h0, if_pos h0, feeds_append a b (i + 1) _ h, show i + 1 + a.length = i + (a.length + 1) by omega]
    · rename_i h0; exact absurd h h0
theorem dig_byte {d : Nat} (h : d ≤ 9) : (UInt8.ofNat (48 + d)).toNat = 48 + d := by rw [UInt8.toNat_ofNat']; omega
theorem class_of_dig {d : Nat} (h : d ≤ 9) : goClass ((48 + d : Nat) : Int) = 2 := by
  unfold goClass
  rw [if_neg (by omega), if_neg (by omega), if_neg (by omega), if_neg (by omega), if_pos (by omega)]
theorem feed_d {s : Pst} {flat row : List Int} {del : Bool} {i : Nat} (h : Bet s flat row del false) : Bet (gFeeds [100, 32] i s) flat row true true := by
  have e1 : pFeed s 100 i = { s with start := i, state := 4, del := true, opn := true } := by
    rw [feed0 h.state]
    unfold pBegin
    have hc : goClass ((100 : Nat) : Int) = 5 := rfl
    rw [hc, if_neg (by decide), if_pos rfl, h.opn, if_neg (by decide)]
  have e2 : pFeed { s with start := i, state := 4, del := true, opn := true } 32 (i + 1) = { s with start := i, state := 0, del := true, opn := true } := by
    rw [feed4 rfl, if_pos class_32]
  have e : gFeeds [100, 32] i s = { s with start := i, state := 0, del := true, opn := true } := by
    simp only [gFeeds]
    rw [if_pos h.err]
    have : (100 : UInt8).toNat = 100 := rfl
    rw [this, e1]
    dsimp only
    rw [if_pos h.err]
    have : (32 : UInt8).toNat = 32 := rfl
    rw [this, e2]
  rw [e]
  exact ⟨rfl, h.err, h.at_, h.arena, h.pos, h.neg, h.good, rfl, rfl⟩

theorem feed_num {s : Pst} {flat row : List Int} {del op : Bool} {i v : Nat} {neg : Bool} {sep : UInt8} (hs : sp sep = true) (h : Bet { s with state := 0 } flat row del op) (hst : s.state = 3) (hv : s.val = v) (hm : s.minus = neg) (h12 : v ≤ 12) (h0 : ¬ (v = 0 ∧ neg = true)) :
    (v ≠ 0 → Bet (pFeed s sep.toNat i) flat (row ++ [if neg = true then -(v : Int) else (v : Int)]) del true) ∧ (v = 0 → Bet (pFeed s sep.toNat i) (match gNorm row 12 1 [] with | none => flat | some l => gRow flat del l) [] false false) := by
  have hc := (class_sp sep).2 hs
  have e : pFeed s sep.toNat i = pNumber { s with state := 0 } := by
    rw [feed3 hst, if_neg (by rw [hc]; decide), if_pos hc]
  rw [e]
  obtain ⟨_, _, q3, q4⟩ := number_bet (s := s) h hv hm
  exact ⟨fun h1 => q3 h0 (by omega) h1, fun h1 => q4 h0 (by omega) h1⟩
theorem feeds_cons {s : Pst} {c : UInt8} {cs : List UInt8} {i : Nat} (h : s.err = 0) : gFeeds (c :: cs) i s = gFeeds cs (i + 1) (pFeed s c.toNat i) := by
  simp only [gFeeds]; rw [if_pos h]
theorem feed_zero {s : Pst} {flat row : List Int} {del op : Bool} {i : Nat} (h : Bet s flat row del op) : Bet (gFeeds [48, 10] i s) (match gNorm row 12 1 [] with | none => flat | some l => gRow flat del l) [] false false := by
  have e1 : pFeed s 48 i = { s with start := i, state := 3, minus := false, val := 0 } := by
    rw [feed0 h.state]
    unfold pBegin
    have hc : goClass ((48 : Nat) : Int) = 2 := rfl
    rw [hc, if_neg (by decide), if_neg (by decide), if_neg (by decide), if_pos rfl]
  rw [feeds_cons h.err]
  have : (48 : UInt8).toNat = 48 := rfl
  rw [this, e1, feeds_cons (s := { s with start := i, state := 3, minus := false, val := 0 }) h.err]
  exact (feed_num (s := { s with start := i, state := 3, minus := false, val := 0 }) (sep := 10) (v := 0) (neg := false) rfl ⟨rfl, h.err, h.at_, h.arena, h.pos, h.neg, h.good, h.del, h.opn⟩ rfl rfl rfl (by omega) (by simp)).2 rfl
theorem feed_digits {s : Pst} {flat row : List Int} {del op : Bool} {i v : Nat} {neg : Bool} (h : Bet { s with state := 0 } flat row del op) (hm : s.minus = neg) (hv : 1 ≤ v ∧ v ≤ 12) (hst : s.err = 0) (hfirst : ∀ d, d ≤ 9 → pFeed s (48 + d) i = { s with start := if neg = true then s.start else i, state := 3, minus := neg, val := d }) :
    Bet (gFeeds ((if 10 ≤ v then [UInt8.ofNat (48 + v / 10), UInt8.ofNat (48 + v % 10)] else [UInt8.ofNat (48 + v)]) ++ [32]) i s) flat (row ++ [if neg = true then -(v : Int) else (v : Int)]) del true := by
  have hh : ∀ (st : Nat) (val : Nat), Bet { s with start := st, state := 0, minus := neg, val := val } flat row del op := fun st val => ⟨rfl, h.err, h.at_, h.arena, h.pos, h.neg, h.good, h.del, h.opn⟩
  by_cases h10 : 10 ≤ v
  · rw [if_pos h10]
    simp only [List.cons_append, List.nil_append]
    rw [feeds_cons hst, dig_byte (show v / 10 ≤ 9 by omega), hfirst _ (by omega)]
    rw [feeds_cons (by exact hst), dig_byte (show v % 10 ≤ 9 by omega), feed3 rfl, if_pos (class_of_dig (by omega))]
    dsimp only
    have hval : (if v / 10 * 10 + (48 + v % 10 - 48) > 12 then 13 else v / 10 * 10 + (48 + v % 10 - 48)) = v := by
      have h1 : 48 + v % 10 - 48 = v % 10 := by omega
      rw [h1, if_neg (by omega)]; omega
    rw [hval]
    rw [feeds_cons (by exact hst)]
    exact (feed_num (s := { s with start := if neg = true then s.start else i, state := 3, minus := neg, val := v }) (sep := 32) (v := v) (neg := neg) rfl (hh _ _) rfl rfl rfl hv.2 (fun h0 => by have := h0.1; omega)).1 (by omega)
  · rw [if_neg h10]
    simp only [List.cons_append, List.nil_append]
    rw [feeds_cons hst, dig_byte (show v ≤ 9 by omega), hfirst _ (by omega)]
    rw [feeds_cons (by exact hst)]
    exact (feed_num (s := { s with start := if neg = true then s.start else i, state := 3, minus := neg, val := v }) (sep := 32) (v := v) (neg := neg) rfl (hh _ _) rfl rfl rfl hv.2 (fun h0 => by have := h0.1; omega)).1 (by omega)
theorem feed_lit {s : Pst} {flat row : List Int} {del op : Bool} {i : Nat} {x : Int} (h : Bet s flat row del op) (hx : goGoodLit x = true) : Bet (gFeeds (gItoa x ++ [32]) i s) flat (row ++ [x]) del true := by
  have ha := good_abs hx
  unfold gItoa
  by_cases hn : x < 0
  · rw [if_pos hn]
    simp only [List.cons_append, List.nil_append]
    have e1 : pFeed s 45 i = { s with start := i, state := 2, minus := true, val := 0 } := by
      rw [feed0 h.state]
      unfold pBegin
      have hc : goClass ((45 : Nat) : Int) = 3 := rfl
      rw [hc, if_neg (by decide), if_neg (by decide), if_pos rfl]
    rw [feeds_cons h.err]
    have : (45 : UInt8).toNat = 45 := rfl
    rw [this, e1]
    have := feed_digits (s := { s with start := i, state := 2, minus := true, val := 0 }) (i := i + 1) (v := x.natAbs) (neg := true) (flat := flat) (row := row) (del := del) (op := op) ⟨rfl, h.err, h.at_, h.arena, h.pos, h.neg, h.good, h.del, h.opn⟩ rfl (by omega) h.err (by
      intro d hd
      rw [feed2 rfl, if_pos (class_of_dig hd)]
      simp)
    have e : (if true = true then -((x.natAbs : Nat) : Int) else ((x.natAbs : Nat) : Int)) = x := by rw [if_pos rfl]; omega
    rw [e] at this
    exact this
  · rw [if_neg hn, List.nil_append]
    have := feed_digits (s := { s with minus := false }) (i := i) (v := x.natAbs) (neg := false) (flat := flat) (row := row) (del := del) (op := op) ⟨rfl, h.err, h.at_, h.arena, h.pos, h.neg, h.good, h.del, h.opn⟩ rfl (by omega) h.err (by
      intro d hd
      rw [feed0 (s := { s with minus := false }) h.state]
      unfold pBegin
      have hc := class_of_dig hd
      rw [hc, if_neg (by decide), if_neg (by decide), if_neg (by decide), if_pos rfl]
      simp)
    have e : (if false = true then -((x.natAbs : Nat) : Int) else ((x.natAbs : Nat) : Int)) = x := by rw [if_neg (by simp)]; omega
    rw [e] at this

    have es : gFeeds ((if 10 ≤ x.natAbs then [UInt8.ofNat (48 + x.natAbs / 10), UInt8.ofNat (48 + x.natAbs % 10)] else [UInt8.ofNat (48 + x.natAbs)]) ++ [32]) i { s with minus := false } = gFeeds ((if 10 ≤ x.natAbs then [UInt8.ofNat (48 + x.natAbs / 10), UInt8.ofNat (48 + x.natAbs % 10)] else [UInt8.ofNat (48 + x.natAbs)]) ++ [32]) i s := by
      have key : ∀ d, d ≤ 9 → pFeed { s with minus := false } (48 + d) i = pFeed s (48 + d) i := by
        intro d hd
        have hc := class_of_dig hd
        rw [feed0 (s := { s with minus := false }) h.state, feed0 h.state]
        unfold pBegin
        rw [hc, if_neg (by decide), if_neg (by decide), if_neg (by decide), if_pos rfl, if_neg (by decide), if_neg (by decide), if_neg (by decide), if_pos rfl]
      by_cases h10 : 10 ≤ x.natAbs
      · rw [if_pos h10]
        simp only [List.cons_append, List.nil_append]
        rw [feeds_cons (s := { s with minus := false }) h.err, feeds_cons h.err, dig_byte (show x.natAbs / 10 ≤ 9 by omega), key _ (by omega)]
      · rw [if_neg h10]
        simp only [List.cons_append, List.nil_append]
        rw [feeds_cons (s := { s with minus := false }) h.err, feeds_cons h.err, dig_byte (show x.natAbs ≤ 9 by omega), key _ (by omega)]
    rw [es] at this
    exact this
theorem feed_lits : ∀ (l : List Int) {s : Pst} {flat row : List Int} {del op : Bool} {i : Nat}, Bet s flat row del op → (∀ x ∈ l, goGoodLit x = true) → ∃ op', Bet (gFeeds (gPrint l) i s) flat (row ++ l) del op'
  | [], s, flat, row, del, op, i, h, _ => ⟨op, by simpa [gPrint, gFeeds] using h⟩
  | x :: xs, s, flat, row, del, op, i, h, hg => by
    have hgx := hg x (by simp)
    have ha := good_abs hgx
    have e : gPrint (x :: xs) = (gItoa x ++ [32]) ++ gPrint xs := by
      have : gLay x = gItoa x ++ [32] := by unfold gLay; rw [if_neg (by omega), if_neg ha.1]
      simp [gPrint, this]
    have h1 := feed_lit (i := i) h hgx
    rw [e, feeds_append _ _ _ _ h1.err]
    obtain ⟨op', h2⟩ := feed_lits xs (i := i + (gItoa x ++ [32]).length) h1 (fun y hy => hg y (by simp [hy]))
    exact ⟨op', by simpa using h2⟩
theorem feed_rows : ∀ (R : List (Bool × List Int)) {s : Pst} {flat : List Int} {i : Nat}, Bet s flat [] false false → (∀ r ∈ R, NF r.2) → Bet (gFeeds (gPrint (flatOf R)) i s) (flat ++ flatOf R) [] false false
  | [], s, flat, i, h, _ => by simpa [flatOf, gPrint, gFeeds] using h
  | r :: R, s, flat, i, h, hn => by
    have hr := hn r (by simp)
    have pa : ∀ a b : List Int, gPrint (a ++ b) = gPrint a ++ gPrint b := fun a b => by simp [gPrint]
    have e : gPrint (flatOf (r :: R)) = gPrint (if r.1 = true then [13] else []) ++ (gPrint r.2 ++ ([48, 10] ++ gPrint (flatOf R))) := by
      simp only [flatOf]
      rw [pa, pa]
      have : gPrint (0 :: flatOf R) = [48, 10] ++ gPrint (flatOf R) := by simp [gPrint, gLay]
      rw [this]
    rw [e]

    have h1 : ∃ op, Bet (gFeeds (gPrint (if r.1 = true then [13] else [])) i s) flat [] r.1 op := by
      by_cases hd : r.1 = true
      · rw [if_pos hd, hd]
        have : gPrint [13] = [100, 32] := by simp [gPrint, gLay]
        rw [this]
        exact ⟨true, feed_d h⟩
      · rw [if_neg hd, Bool.eq_false_iff.2 hd]
        exact ⟨false, by simpa [gPrint, gFeeds] using h⟩
    obtain ⟨op, h1⟩ := h1
    rw [feeds_append _ _ _ _ h1.err]
    obtain ⟨op2, h2⟩ := feed_lits r.2 (i := i + (gPrint (if r.1 = true then [13] else [])).length) h1 hr.1
    rw [feeds_append _ _ _ _ h2.err]
    have h3 := feed_zero (i := i + (gPrint (if r.1 = true then [13] else [])).length + (gPrint r.2).length) h2
    rw [List.nil_append, gNorm_self hr] at h3
    dsimp only at h3
    rw [feeds_append _ _ _ _ h3.err]
    have h4 := feed_rows R (i := i + (gPrint (if r.1 = true then [13] else [])).length + (gPrint r.2).length + ([48, 10] : List UInt8).length) h3 (fun r' hr' => hn r' (by simp [hr']))
    have e2 : gRow flat r.1 r.2 ++ flatOf R = flat ++ flatOf (r :: R) := by
      unfold gRow
      simp only [flatOf]
      by_cases hd : r.1 = true
      · simp [hd]
      · simp [Bool.eq_false_iff.2 hd]
    rw [e2] at h4
    exact h4

theorem parse_print {R : List (Bool × List Int)} (hn : ∀ r ∈ R, NF r.2) (hl : (flatOf R).length ≤ 262144) : gParse (gPrint (flatOf R)) = (0, 0, flatOf R) := by
  have hlen := gPrint_len (flatOf R)
  have hnl : ¬ 1048576 < (gPrint (flatOf R)).length := by omega
  rw [← rParse_eq, rParse_rC hnl]
  have h0 : Bet Pst.rest [] [] false false := ⟨rfl, rfl, rfl, rfl, fun v => by simp [Pst.rest, noV], fun v => by simp [Pst.rest, noV], by simp, rfl, rfl⟩
  have h1 := feed_rows R (i := 0) h0 hn
  rw [List.nil_append] at h1
  have e0 : pFeed (gFeeds (gPrint (flatOf R)) 0 Pst.rest) 32 (gPrint (flatOf R)).length = { gFeeds (gPrint (flatOf R)) 0 Pst.rest with start := (gPrint (flatOf R)).length } := by
    rw [feed0 h1.state]
    unfold pBegin
    rw [class_32, if_neg (by decide), if_neg (by decide), if_neg (by decide), if_neg (by decide), if_neg (by decide)]
  have e1 : rC (gPrint (flatOf R)) Pst.rest 0 = rC (gPrint (flatOf R)) (gFeeds (gPrint (flatOf R)) 0 Pst.rest) (gPrint (flatOf R)).length := by
    unfold rC
    rw [List.drop_zero, List.drop_length]
    rfl
  rw [e1, rC_end h1.err (Nat.le_refl _), e0]
  simp [h1.err, h1.opn, h1.at_, h1.arena]

theorem gTake_is (c : List Int) : ∀ (L pre : List (List Int)), (c ∈ L → ∃ L', gTake c pre L = some L' ∧ (pre ++ L).Perm (c :: L')) ∧ (c ∉ L → gTake c pre L = none)
  | [], pre => ⟨by simp, fun _ => rfl⟩
  | x :: xs, pre => by
    simp only [gTake]
    by_cases he : x = c
    · rw [if_pos he]
      subst he
      exact ⟨fun _ => ⟨pre ++ xs, rfl, List.perm_middle⟩, fun h => absurd (by simp) h⟩
    · rw [if_neg he]
      have ih := gTake_is c xs (pre ++ [x])
      refine ⟨fun h => ?_, fun h => ih.2 fun h0 => h (by simp [h0])⟩
      obtain ⟨L', h1, h2⟩ := ih.1 ((List.mem_cons.1 h).resolve_left fun h0 => he h0.symm)
      exact ⟨L', h1, by simpa using h2⟩
theorem gBag_steps : ∀ (rows : List (Bool × List Int)) (L L' B : List (List Int)), gSteps L rows = some L' → B.Perm L → ∃ B', gBag B rows = some B' ∧ B'.Perm L'
  | [], L, L', B, h, hp => by simp only [gSteps] at h; cases h; exact ⟨B, rfl, hp⟩
  | r :: rows, L, L', B, h, hp => by
    simp only [gSteps] at h
    split at h
    · rename_i h0
      simp only [gBag]
      unfold gTurn at h0 h
      by_cases hd : r.1 = true
      · rw [if_pos hd] at h0 h ⊢
        cases hg : gAt r.2 0 L with
        | none => rw [hg] at h0; simp at h0
        | some k =>
          rw [hg] at h
          dsimp only at h
          have hp2 := (gAt_some hg).2
          rw [Nat.sub_zero] at hp2
          obtain ⟨B', hb1, hb2⟩ := (gTake_is r.2 B []).1 (hp.mem_iff.2 (hp2.mem_iff.2 (by simp)))
          rw [hb1]
          dsimp only
          rw [List.nil_append] at hb2
          exact gBag_steps rows _ L' B' h ((List.perm_cons r.2).1 (hb2.symm.trans (hp.trans hp2)))
      · rw [if_neg hd] at h0 h ⊢
        by_cases hru : gRup L r.2 = false
        · rw [if_pos hru] at h0; simp at h0
        · rw [if_neg hru] at h0 h
          by_cases hl : 64 ≤ L.length
          · rw [if_pos hl] at h0; simp at h0
          · rw [if_neg hl] at h
            exact gBag_steps rows _ L' (B ++ [r.2]) h (hp.append_right _)
    · cases h
theorem gTakeAll_perm : ∀ (ls B : List (List Int)), B.Perm ls → gTakeAll B ls = some []
  | [], B, h => by simp only [gTakeAll]; rw [h.eq_nil]
  | l :: ls, B, h => by
    simp only [gTakeAll]
    obtain ⟨B', h1, h2⟩ := (gTake_is l B []).1 (h.mem_iff.2 (by simp))
    rw [h1]
    dsimp only
    rw [List.nil_append] at h2
    exact gTakeAll_perm ls B' ((List.perm_cons l).1 (h2.symm.trans h))
theorem gBag_append : ∀ (a b : List (Bool × List Int)) (B : List (List Int)), gBag B (a ++ b) = (gBag B a).bind fun B' => gBag B' b
  | [], b, B => rfl
  | r :: a, b, B => by
    simp only [List.cons_append, gBag]
    split
    · cases gTake r.2 [] B with
      | none => rfl
      | some B' => exact gBag_append a b B'
    · exact gBag_append a b _

theorem log_store {Q : List (List Int)} {rows : List (Bool × List Int)} {L live : List (List Int)} (h : gSteps Q rows = some L) (hp : L.Perm live) : gLogIsStore Q (rows ++ [(false, [])]) live = true := by
  obtain ⟨B', h1, h2⟩ := gBag_steps rows Q L Q h (List.Perm.refl _)
  unfold gLogIsStore
  have e : gBag Q (rows ++ [(false, [])]) = some (B' ++ [[]]) := by
    rw [gBag_append, h1]
    simp [gBag]
  rw [e]
  dsimp only
  obtain ⟨B2, h3, h4⟩ := (gTake_is [] (B' ++ [[]]) []).1 (by simp)
  rw [h3]
  dsimp only
  rw [List.nil_append] at h4
  have h5 : B2.Perm live := ((List.perm_cons []).1 (h4.symm.trans (List.perm_append_singleton [] B'))).trans (h2.trans hp)
  rw [gTakeAll_perm live B2 h5]
  simp
theorem gAdds_is : ∀ (rows : List (Bool × List Int)) (n : Int), gAdds n rows = n + (adds rows : Nat)
  | [], n => by simp [gAdds, adds]
  | r :: rows, n => by
    simp only [gAdds]
    have ih := fun m => gAdds_is rows m
    unfold adds at ih ⊢
    by_cases h : r.1 = false
    · rw [if_pos h, ih]
      simp [h]
      omega
    · rw [if_neg h, ih]
      have : r.1 = true := by simpa using h
      simp [this]
end Go.Proofs.Qxb6500974aGreat
