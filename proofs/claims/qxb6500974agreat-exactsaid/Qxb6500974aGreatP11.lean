import Derived.Test.Qxb6500974aGreatP9
import Derived.Test.Qxb6500974aGreatP10
import Derived.Test.Qxb6500974aGreatR21
set_option linter.all false
set_option linter.unusedSimpArgs false
set_option linter.unusedVariables false
namespace Go.Proofs.Qxb6500974aGreat
open Go.Eng

theorem gNorm_is {row : List Int} : ∀ (n v : Nat) (out l : List Int), 1 ≤ v → v + n ≤ 13 → NF out → (∀ x ∈ out, x.natAbs < v) → gNorm row n v out = some l → NF l ∧ ∀ x, x ∈ l ↔ x ∈ out ∨ (v ≤ x.natAbs ∧ x.natAbs < v + n ∧ x ∈ row)
  | 0, v, out, l, h1, h2, h3, h4, h => by
    simp only [gNorm] at h
    cases h
    refine ⟨h3, fun x => ⟨.inl, fun h0 => h0.elim id fun h9 => by omega⟩⟩
  | n + 1, v, out, l, h1, h2, h3, h4, h => by
    simp only [gNorm] at h
    have anyP : ∀ y : Int, (row.any (· == y) = true) ↔ y ∈ row := by
      intro y
      rw [List.any_eq_true]
      constructor
      · rintro ⟨x, hx, h0⟩
        have : x = y := by simpa using h0
        rw [← this]; exact hx
      · intro h0; exact ⟨y, h0, by simp⟩
    split at h
    · cases h
    · rename_i hno
      rw [anyP, anyP] at hno
      have e : (v : Int) + 1 = ((v + 1 : Nat) : Int) := by omega
      rw [e] at h
      have gv : goGoodLit ((v : Nat) : Int) = true := by simp [goGoodLit]; omega
      have gnv := good_neg gv
      have snoc : ∀ y : Int, goGoodLit y = true → y.natAbs = v → NF (out ++ [y]) ∧ ∀ x ∈ out ++ [y], x.natAbs < v + 1 := by
        intro y hy ha
        refine ⟨⟨?_, ?_⟩, ?_⟩
        · intro x hx
          rw [List.mem_append] at hx
          rcases hx with hx | hx
          · exact h3.1 x hx
          · simp at hx; subst hx; exact hy
        · rw [List.pairwise_append]
          refine ⟨h3.2, by simp, ?_⟩
          intro a hx b hb
          simp at hb; subst hb
          have := h4 a hx; omega
        · intro x hx
          rw [List.mem_append] at hx
          rcases hx with hx | hx
          · have := h4 x hx; omega
          · simp at hx; subst hx; omega
      by_cases hp : (v : Int) ∈ row
      · have hn : ¬ -(v : Int) ∈ row := fun h0 => hno ⟨hp, h0⟩
        rw [if_pos ((anyP _).2 hp), if_neg (fun h0 => hn ((anyP _).1 h0)), List.append_nil] at h
        obtain ⟨s1, s2⟩ := snoc _ gv (by omega)
        obtain ⟨r1, r2⟩ := gNorm_is n (v + 1) _ l (by omega) (by omega) s1 s2 h
        refine ⟨r1, fun x => ?_⟩
        rw [r2, List.mem_append, List.mem_singleton]
        constructor
        · rintro ((h0 | h0) | h0)
          · exact .inl h0
          · subst h0; exact .inr ⟨by omega, by omega, hp⟩
          · exact .inr ⟨by omega, by omega, h0.2.2⟩
        · rintro (h0 | ⟨a, b, c⟩)
          · exact .inl (.inl h0)
          · by_cases he : x.natAbs = v
            · have : x = v ∨ x = -(v : Int) := by omega
              rcases this with h9 | h9
              · exact .inl (.inr h9)
              · rw [h9] at c; exact absurd c hn
            · exact .inr ⟨by omega, by omega, c⟩
      · rw [if_neg (fun h0 => hp ((anyP _).1 h0))] at h
        by_cases hn : -(v : Int) ∈ row
        · rw [if_pos ((anyP _).2 hn)] at h
          obtain ⟨s1, s2⟩ := snoc _ gnv (by omega)
          obtain ⟨r1, r2⟩ := gNorm_is n (v + 1) _ l (by omega) (by omega) s1 s2 h
          refine ⟨r1, fun x => ?_⟩
          rw [r2, List.mem_append, List.mem_singleton]
          constructor
          · rintro ((h0 | h0) | h0)
            · exact .inl h0
            · subst h0; exact .inr ⟨by omega, by omega, hn⟩
            · exact .inr ⟨by omega, by omega, h0.2.2⟩
          · rintro (h0 | ⟨a, b, c⟩)
            · exact .inl (.inl h0)
            · by_cases he : x.natAbs = v
              · have : x = v ∨ x = -(v : Int) := by omega
                rcases this with h9 | h9
                · rw [h9] at c; exact absurd c hp
                · exact .inl (.inr h9)
              · exact .inr ⟨by omega, by omega, c⟩
        · rw [if_neg (fun h0 => hn ((anyP _).1 h0)), List.append_nil] at h
          obtain ⟨r1, r2⟩ := gNorm_is n (v + 1) out l (by omega) (by omega) h3 (fun x hx => by have := h4 x hx; omega) h
          refine ⟨r1, fun x => ?_⟩
          rw [r2]
          constructor
          · rintro (h0 | h0)
            · exact .inl h0
            · exact .inr ⟨by omega, by omega, h0.2.2⟩
          · rintro (h0 | ⟨a, b, c⟩)
            · exact .inl h0
            · by_cases he : x.natAbs = v
              · have : x = v ∨ x = -(v : Int) := by omega
                rcases this with h9 | h9
                · rw [h9] at c; exact absurd c hp
                · rw [h9] at c; exact absurd c hn
              · exact .inr ⟨by omega, by omega, c⟩
theorem nil_NF : NF ([] : List Int) := ⟨by simp, by simp⟩
theorem gNorm_NF {row l : List Int} (h : gNorm row 12 1 [] = some l) : NF l := (gNorm_is 12 1 [] l (by omega) (by omega) nil_NF (by simp) h).1
theorem NF.noclash {l : List Int} (h : NF l) {x : Int} (hx : x ∈ l) : -x ∉ l := by
  intro hn
  have := h.neg.cons
  exact this (-x) (List.mem_map.2 ⟨x, hx, rfl⟩) (by rw [Int.neg_neg]; exact List.mem_map.2 ⟨-x, hn, by simp⟩)
theorem gNorm_self {l : List Int} (h : NF l) : gNorm l 12 1 [] = some l := by

  have hex : ∃ l', gNorm l 12 1 [] = some l' := by
    have : ∀ (n : Nat) (v : Int) (out : List Int), ∃ l', gNorm l n v out = some l' := by
      intro n
      induction n with
      | zero => intro v out; exact ⟨out, rfl⟩
      | succ n ih =>
        intro v out
        simp only [gNorm]
        rw [if_neg]
        · exact ih _ _
        · rintro ⟨h1, h2⟩
          obtain ⟨x, hx, e1⟩ := List.any_eq_true.1 h1
          obtain ⟨y, hy, e2⟩ := List.any_eq_true.1 h2
          have e1 : x = v := by simpa using e1
          have e2 : y = -v := by simpa using e2
          subst e1
          subst e2
          exact h.noclash hx hy
    exact this 12 1 []
  obtain ⟨l', hl'⟩ := hex
  obtain ⟨h1, h2⟩ := gNorm_is 12 1 [] l' (by omega) (by omega) nil_NF (by simp) hl'
  rw [hl']
  congr 1
  refine h1.ext h fun x hx => ?_
  rw [h2]
  have := good_abs hx
  constructor
  · rintro (h0 | h0)
    · simp at h0
    · exact h0.2.2
  · intro h0; exact .inr ⟨by omega, by omega, h0⟩

theorem gRow_flat {R : List (Bool × List Int)} {d : Bool} {l : List Int} : gRow (flatOf R) d l = flatOf (R ++ [(d, l)]) := by
  rw [flatOf_append]
  unfold gRow
  cases d <;> simp [flatOf]
theorem gPM_rows (t : List UInt8) : ∀ (n i : Nat) (R : List (Bool × List Int)) (row : List Int) (del op : Bool), (∀ r ∈ R, NF r.2) → ∃ R', (gPM t n i (flatOf R) row del op).2.2 = flatOf R' ∧ ∀ r ∈ R', NF r.2
  | 0, i, R, row, del, op, h => ⟨[], rfl, by simp⟩
  | n + 1, i, R, row, del, op, h => by
    simp only [gPM]
    have bad : ∃ R' : List (Bool × List Int), ([] : List Int) = flatOf R' ∧ ∀ r ∈ R', NF r.2 := ⟨[], rfl, by simp⟩
    split
    · split
      · exact gPM_rows t n _ R row del op h
      · split
        · exact gPM_rows t n _ R row del op h
        · split
          · split
            · exact bad
            · split
              · exact bad
              · exact gPM_rows t n _ R row true true h
          · split
            · exact bad
            · split
              · exact gPM_rows t n _ R _ del true h
              · cases hg : gNorm row 12 1 [] with
                | none => exact gPM_rows t n _ R [] false false h
                | some l =>
                  dsimp only
                  rw [gRow_flat]
                  refine gPM_rows t n _ (R ++ [(del, l)]) [] false false fun r hr => ?_
                  rw [List.mem_append] at hr
                  rcases hr with hr | hr
                  · exact h r hr
                  · simp at hr; subst hr; exact gNorm_NF hg
    · split
      · exact bad
      · exact ⟨R, rfl, h⟩
theorem parse_rows (t : List UInt8) : ∃ R, (gParse t).2.2 = flatOf R ∧ ∀ r ∈ R, NF r.2 := by
  unfold gParse
  split
  · exact ⟨[], rfl, by simp⟩
  · exact gPM_rows t _ 0 [] [] false false (by simp)
theorem gRowsA_lits : ∀ (l : List Int) (d : Bool) (cur tl : List Int), (∀ x ∈ l, goGoodLit x = true) → gRowsA d cur (l ++ 0 :: tl) = (d, cur ++ l) :: gRowsA false [] tl
  | [], d, cur, tl, _ => by simp only [List.nil_append, gRowsA]; rw [if_neg (by omega)]; simp
  | x :: xs, d, cur, tl, h => by
    have ha := good_abs (h x (by simp))
    simp only [List.cons_append, gRowsA]
    rw [if_neg (by omega), if_neg ha.1, gRowsA_lits xs d (cur ++ [x]) tl (fun y hy => h y (by simp [hy]))]
    simp
theorem gRows_flat : ∀ (R : List (Bool × List Int)), (∀ r ∈ R, NF r.2) → gRows (flatOf R) = R
  | [], _ => rfl
  | r :: R, h => by
    have ih := gRows_flat R (fun r' hr' => h r' (by simp [hr']))
    have hr := h r (by simp)
    unfold gRows at ih ⊢
    simp only [flatOf]
    by_cases hd : r.1 = true
    · rw [if_pos hd]
      simp only [List.cons_append, List.nil_append, gRowsA, if_true]
      rw [gRowsA_lits r.2 true [] _ hr.1, ih, List.nil_append, ← hd]
    · rw [if_neg hd, List.nil_append, gRowsA_lits r.2 false [] _ hr.1, ih, List.nil_append, ← Bool.eq_false_iff.2 hd]

theorem survey_lits : ∀ (l : List Int) (n : Int) (tl : List Int), (∀ x ∈ l, goGoodLit x = true) → gSurvey n (l ++ 0 :: tl) = gSurvey (n + 1) tl
  | [], n, tl, _ => by simp only [List.nil_append, gSurvey]; rw [if_neg (by omega)]; simp
  | x :: xs, n, tl, h => by
    have ha := good_abs (h x (by simp))
    simp only [List.cons_append, gSurvey]
    rw [if_neg (by omega), if_neg ha.1]
    exact survey_lits xs n tl (fun y hy => h y (by simp [hy]))
theorem gPr_survey : ∀ (R : List (Bool × List Int)) (cs : List (List Int)), (∀ r ∈ R, NF r.2) → gPr cs R = if gSurvey cs.length (flatOf R) ≠ 0 then ([], gSurvey cs.length (flatOf R), 0) else (cs ++ R.map Prod.snd, 0, 0)
  | [], cs, _ => by
    simp only [gPr, flatOf, gSurvey]
    by_cases h : 40 < cs.length
    · rw [if_pos h, if_pos (show 40 < (cs.length : Int) by omega)]; simp
    · rw [if_neg h, if_neg (show ¬ 40 < (cs.length : Int) by omega)]; simp
  | r :: R, cs, h => by
    have hr := h r (by simp)
    have es : gSurvey cs.length (flatOf (r :: R)) = if r.1 = true then 16 else gSurvey ((cs.length : Int) + 1) (flatOf R) := by
      simp only [flatOf]
      by_cases hd : r.1 = true
      · rw [if_pos hd, if_pos hd]
        simp only [List.cons_append, gSurvey, if_true]
      · rw [if_neg hd, if_neg hd, List.nil_append, survey_lits r.2 _ _ hr.1]
    rw [es]
    simp only [gPr]
    by_cases hd : r.1 = true
    · rw [if_pos hd]
      simp [hd]
    · rw [if_neg hd]
      have ih := gPr_survey R (cs ++ [r.2]) (fun r' hr' => h r' (by simp [hr']))
      have e : ((cs ++ [r.2]).length : Int) = (cs.length : Int) + 1 := by simp
      rw [e] at ih
      rw [ih]
      simp [hd]
theorem survey_ok : ∀ (R : List (Bool × List Int)) (n : Nat), (∀ r ∈ R, NF r.2) → gSurvey n (flatOf R) = 0 → (∀ r ∈ R, r.1 = false) ∧ n + R.length ≤ 40
  | [], n, _, h => by
    simp only [flatOf, gSurvey] at h
    refine ⟨by simp, ?_⟩
    rcases Nat.lt_or_ge 40 n with h0 | h0
    · rw [if_pos (by omega)] at h; omega
    · simpa using h0
  | r :: R, n, hn, h => by
    have hr := hn r (by simp)
    simp only [flatOf] at h
    by_cases hd : r.1 = true
    · rw [if_pos hd] at h
      simp only [List.cons_append, gSurvey, if_true] at h
      omega
    · rw [if_neg hd, List.nil_append, survey_lits r.2 _ _ hr.1] at h
      have ih := survey_ok R (n + 1) (fun r' hr' => hn r' (by simp [hr'])) h
      refine ⟨fun r' hr' => ?_, by simp; omega⟩
      rcases List.mem_cons.1 hr' with rfl | hr'
      · exact Bool.eq_false_iff.2 hd
      · exact ih.1 r' hr'
theorem problem_is (t : List UInt8) {R : List (Bool × List Int)} (hR : (gParse t).2.2 = flatOf R) (hn : ∀ r ∈ R, NF r.2) : gProblem t = if (gParse t).1 ≠ 0 then ([], (gParse t).1, (gParse t).2.1) else if gSurvey 0 (flatOf R) ≠ 0 then ([], gSurvey 0 (flatOf R), 0) else (R.map Prod.snd, 0, 0) := by
  unfold gProblem
  rw [hR, gRows_flat R hn, gPr_survey R [] hn]
  simp
theorem check_is (tp tq : List UInt8) {Rp Rq : List (Bool × List Int)} (hp : (gParse tp).2.2 = flatOf Rp) (hnp : ∀ r ∈ Rp, NF r.2) (hq : (gParse tq).2.2 = flatOf Rq) (hnq : ∀ r ∈ Rq, NF r.2) : rCheck tp tq Rp Rq = gMCheck tp tq := by
  unfold rCheck gMCheck
  rw [rParse_eq, rParse_eq, problem_is tp hp hnp, hq, gRows_flat Rq hnq, hp]
  by_cases h1 : (gParse tp).1 ≠ 0
  · simp only [if_pos h1]
  · simp only [if_neg h1]
    by_cases h2 : gSurvey 0 (flatOf Rp) ≠ 0
    · simp only [if_pos h2]
    · simp only [if_neg h2]
      simp

theorem gLoadA_lits : ∀ (l cur tl : List Int) (id : Nat) (w : Wt), (∀ x ∈ l, goGoodLit x = true) → gLoadA cur (l ++ 0 :: tl) id w = gLoadA [] tl (id + 1) (fupd w id ⟨1, cur ++ l⟩)
  | [], cur, tl, id, w, _ => by simp only [List.nil_append, gLoadA, if_true, List.append_nil]
  | x :: xs, cur, tl, id, w, h => by
    have ha := good_abs (h x (by simp))
    simp only [List.cons_append, gLoadA]
    rw [if_neg ha.1, gLoadA_lits xs (cur ++ [x]) tl id w (fun y hy => h y (by simp [hy]))]
    simp
theorem LoadOK_lits : ∀ (l cur tl : List Int) (id : Nat), (∀ x ∈ l, goGoodLit x = true) → NF (cur ++ l) → id < 40 → LoadOK [] tl (id + 1) → LoadOK cur (l ++ 0 :: tl) id
  | [], cur, tl, id, _, h1, h2, h3 => by
    rw [List.append_nil] at h1
    simp only [List.nil_append, LoadOK, if_true]
    exact ⟨h1, h2, h3⟩
  | x :: xs, cur, tl, id, h, h1, h2, h3 => by
    have ha := good_abs (h x (by simp))
    simp only [List.cons_append, LoadOK]
    rw [if_neg ha.1]
    exact LoadOK_lits xs (cur ++ [x]) tl id (fun y hy => h y (by simp [hy])) (by simpa using h1) h2 h3
theorem load_ok : ∀ (R : List (Bool × List Int)) (id : Nat), (∀ r ∈ R, NF r.2) → (∀ r ∈ R, r.1 = false) → id + R.length ≤ 40 → LoadOK [] (flatOf R) id
  | [], id, _, _, _ => trivial
  | r :: R, id, hn, hf, hl => by
    simp only [List.length_cons] at hl
    simp only [flatOf]
    rw [if_neg (by rw [hf r (by simp)]; simp), List.nil_append]
    exact LoadOK_lits r.2 [] _ id (hn r (by simp)).1 (by simpa using hn r (by simp)) (by omega) (load_ok R (id + 1) (fun r' hr' => hn r' (by simp [hr'])) (fun r' hr' => hf r' (by simp [hr'])) (by omega))
theorem load_at : ∀ (R : List (Bool × List Int)) (id : Nat) (w : Wt) (j : Nat), (∀ r ∈ R, NF r.2) → (∀ r ∈ R, r.1 = false) → gLoadA [] (flatOf R) id w j = if id ≤ j then (match (R.map Prod.snd)[j - id]? with | some q => ⟨1, q⟩ | none => w j) else w j
  | [], id, w, j, _, _ => by
    simp only [flatOf, gLoadA, List.map_nil, List.getElem?_nil]
    split <;> rfl
  | r :: R, id, w, j, hn, hf => by
    simp only [flatOf]
    rw [if_neg (by rw [hf r (by simp)]; simp), List.nil_append, gLoadA_lits r.2 [] _ id w (hn r (by simp)).1, load_at R (id + 1) _ j (fun r' hr' => hn r' (by simp [hr'])) (fun r' hr' => hf r' (by simp [hr']))]
    by_cases h1 : id + 1 ≤ j
    · rw [if_pos h1, if_pos (by omega)]
      have e : j - id = (j - (id + 1)) + 1 := by omega
      rw [e]
      simp only [List.map_cons, List.getElem?_cons_succ]
      rw [fupd_ne _ _ (by omega)]
    · rw [if_neg h1]
      by_cases h2 : id ≤ j
      · have h3 : j = id := by omega
        subst h3
        rw [fupd_at, if_pos h2]
        simp
      · rw [if_neg h2, fupd_ne _ _ (by omega)]
theorem load_st {R : List (Bool × List Int)} (hn : ∀ r ∈ R, NF r.2) (hf : ∀ r ∈ R, r.1 = false) (j : Nat) : (j < R.length → gLoadA [] (flatOf R) 0 emptyW j = ⟨1, (R.map Prod.snd).getD j []⟩) ∧ (R.length ≤ j → gLoadA [] (flatOf R) 0 emptyW j = ⟨0, []⟩) := by
  have h := load_at R 0 emptyW j hn hf
  rw [if_pos (Nat.zero_le _), Nat.sub_zero] at h
  refine ⟨fun hj => ?_, fun hj => ?_⟩
  · have : (R.map Prod.snd)[j]? = some ((R.map Prod.snd).getD j []) := getD_some (by simpa using hj) []
    rw [this] at h
    exact h
  · rw [List.getElem?_eq_none (by simpa using hj)] at h
    exact h
theorem init_Inv {R : List (Bool × List Int)} (hn : ∀ r ∈ R, NF r.2) (hf : ∀ r ∈ R, r.1 = false) (hl : R.length ≤ 40) : Inv (R.map Prod.snd) (gInit (flatOf R)) := by
  have hst := load_st hn hf
  have hw : (gInit (flatOf R)).w = gLoadA [] (flatOf R) 0 emptyW := rfl
  have hQn : ∀ j, j < R.length → NF ((R.map Prod.snd).getD j []) := by
    intro j hj
    have hm : (R.map Prod.snd).getD j [] ∈ R.map Prod.snd := by
      have : (R.map Prod.snd).getD j [] = (R.map Prod.snd)[j]'(by simpa using hj) := by simp [List.getD, hj]
      rw [this]
      exact List.getElem_mem _
    obtain ⟨r, hr, h1⟩ := List.mem_map.1 hm
    rw [← h1]; exact hn r hr
  have hwg : WGood (gInit (flatOf R)).w := by
    rw [hw]
    refine ⟨fun id => ?_, fun id hid => by rw [(hst id).2 (by omega)]⟩
    rcases Nat.lt_or_ge id R.length with h | h
    · rw [(hst id).1 h]
      have := hQn id h
      exact ⟨by simp, by simp, this.1, sorted_vars this.2, by simp⟩
    · rw [(hst id).2 h]
      exact ⟨by simp, by simp, by simp, by simp, by simp⟩
  refine ⟨⟨hwg, Tr.empty_good, fun i e he => by simp [gInit, Tr.empty] at he, fun id hid => ?_⟩, fun k hk => absurd hk (Nat.not_lt_zero k), ?_, fun _ => .inl (Nat.zero_le _)⟩
  · exfalso
    rw [hw] at hid
    rcases Nat.lt_or_ge id R.length with h | h
    · rw [(hst id).1 h] at hid; simp at hid
    · rw [(hst id).2 h] at hid; simp at hid
  · have hlive : liveL (gInit (flatOf R)).w = R.map Prod.snd := by
      have key : ∀ n, slotsA (liveS (gInit (flatOf R)).w) n = (R.map Prod.snd).take n := by
        intro n
        induction n with
        | zero => simp [slotsA]
        | succ n ih =>
          simp only [slotsA]
          rw [ih]
          rcases Nat.lt_or_ge n R.length with h | h
          · have : liveS (gInit (flatOf R)).w n = some ((R.map Prod.snd).getD n []) := by
              rw [liveS_some (by rw [hw, (hst n).1 h]; simp), hw, (hst n).1 h]
              dsimp only
              rw [nf_self (hQn n h)]
            rw [this, take_succ_getD (by simpa using h) []]
            simp
          · have : liveS (gInit (flatOf R)).w n = none := liveS_none (by rw [hw, (hst n).2 h])
            rw [this, List.take_of_length_le (by simpa using h), List.take_of_length_le (by simp; omega)]
            simp
      unfold liveL
      rw [key, List.take_of_length_le (by simp; omega)]
    refine ⟨?_, ?_, fun k _ => rfl, rfl, ?_, ?_, by simp [gInit], rfl, rfl, rfl, ?_, fun v _ => .inr rfl, by simp [gInit], rfl, fun _ => by simp [gInit]⟩
    · intro id hid
      rw [hw]
      rcases Nat.lt_or_ge id R.length with h | h
      · rw [(hst id).1 h]
        refine ⟨by simp [h], fun q hq => ?_⟩
        have : (R.map Prod.snd).getD id [] = q := by simp [List.getD, hq]
        dsimp only
        rw [this]
      · rw [(hst id).2 h]
        refine ⟨by simp; omega, fun q hq => ?_⟩
        rw [List.getElem?_eq_none (by simpa using h)] at hq
        cases hq
    · intro k hk
      rw [hw, (hst (40 + k)).2 (by omega)]
      simp [gInit]
    · intro id hid hs
      rw [hw, (hst id).2 (by omega)] at hs
      simp at hs
    · exact ⟨[], R.map Prod.snd, rfl, by simp, rfl, by rw [hlive], rfl⟩
    · intro v hv
      simp [gInit]
theorem init_mu (flat : List Int) : mu (gInit flat) < 70000 := by
  have e1 : (gInit flat).conf = 0 := rfl
  unfold mu
  rw [e1]
  omega
end Go.Proofs.Qxb6500974aGreat
