import Derived.Test.Qxb6500974aGreatM3
import Derived.Test.Qxb6500974aGreatR4
set_option linter.all false
set_option linter.unusedSimpArgs false
set_option linter.unusedVariables false
namespace Go.Proofs.Qxb6500974aGreat
open Go.Eng

def Cons (S : Int → Prop) : Prop := ∀ x, S x → ¬ S (-x)

def ClC (c : List Int) (S : Int → Prop) : Prop := (∃ x ∈ c, S x) ∨ ∃ x ∈ c, ∃ y ∈ c, x ≠ y ∧ ¬ S (-x) ∧ ¬ S (-y)
structure Clo (cs : List (List Int)) (D S : Int → Prop) : Prop where
  cons : Cons S
  inc : ∀ x, D x → S x
  cl : ∀ c ∈ cs, ClC c S

def Ref (cs : List (List Int)) (D : Int → Prop) : Prop := ¬ ∃ S, Clo cs D S
theorem Clo.not_false {cs : List (List Int)} {D S : Int → Prop} (h : Clo cs D S) {c : List Int} (hc : c ∈ cs) : ¬ ∀ x ∈ c, S (-x) := by
  intro hf
  rcases h.cl c hc with ⟨x, hx, hs⟩ | ⟨x, hx, y, hy, hne, h1, h2⟩
  · exact h.cons x hs (hf x hx)
  · exact h1 (hf x hx)
theorem Clo.unit {cs : List (List Int)} {D S : Int → Prop} (h : Clo cs D S) {c : List Int} (hc : c ∈ cs) {u : Int} (hu : ∀ x ∈ c, x ≠ u → S (-x)) (hm : u ∈ c) : S u := by
  rcases h.cl c hc with ⟨x, hx, hs⟩ | ⟨x, hx, y, hy, hne, h1, h2⟩
  · by_cases he : x = u
    · rw [← he]; exact hs
    · exact absurd (hu x hx he) (h.cons x hs)
  · by_cases he : x = u
    · by_cases he2 : y = u
      · exact absurd (he.trans he2.symm) hne
      · exact absurd (hu y hy he2) h2
    · exact absurd (hu x hx he) h1
theorem Ref.mono {cs cs' : List (List Int)} {D D' : Int → Prop} (h : Ref cs D) (hc : ∀ c ∈ cs, c ∈ cs') (hd : ∀ x, D x → D' x) : Ref cs' D' := by
  rintro ⟨S, h1, h2, h3⟩
  exact h ⟨S, h1, fun x hx => h2 x (hd x hx), fun c hx => h3 c (hc c hx)⟩

structure OnOK (on : List Int) : Prop where
  good : ∀ x ∈ on, goGoodLit x = true
  vars : on.Pairwise fun a b => a.natAbs ≠ b.natAbs
theorem gVal_one {x : Int} : ∀ {on : List Int}, gVal x on = 1 → x ∈ on
  | [], h => by simp [gVal] at h
  | y :: ys, h => by
    simp only [gVal] at h
    split at h
    · rename_i he; simp [he]
    · split at h
      · cases h
      · exact List.mem_cons_of_mem _ (gVal_one h)
theorem gVal_neg {x : Int} : ∀ {on : List Int}, gVal x on = -1 → -x ∈ on
  | [], h => by simp [gVal] at h
  | y :: ys, h => by
    simp only [gVal] at h
    split at h
    · cases h
    · split at h
      · rename_i he; simp [he]
      · exact List.mem_cons_of_mem _ (gVal_neg h)
theorem gVal_zero {x : Int} : ∀ {on : List Int}, gVal x on = 0 → x ∉ on ∧ -x ∉ on
  | [], h => by simp
  | y :: ys, h => by
    simp only [gVal] at h
    split at h
    · cases h
    · split at h
      · cases h
      · rename_i h1 h2
        have := gVal_zero h
        simp only [List.mem_cons, not_or]
        exact ⟨⟨fun h0 => h1 h0.symm, this.1⟩, ⟨fun h0 => h2 h0.symm, this.2⟩⟩
theorem gVal_cases (x : Int) : ∀ (on : List Int), gVal x on = 1 ∨ gVal x on = -1 ∨ gVal x on = 0
  | [] => by simp [gVal]
  | y :: ys => by
    simp only [gVal]
    split
    · simp
    · split
      · simp
      · exact gVal_cases x ys

theorem gState_is (on : List Int) : ∀ (c : List Int) (o u : Int), 0 ≤ o →
    ((gState on c o u).1 = 1 ∧ ∃ x ∈ c, x ∈ on) ∨
    ((gState on c o u).1 = -1 ∧ o = 0 ∧ ∀ x ∈ c, -x ∈ on) ∨
    ((gState on c o u).1 = 0 ∧ ((o = 1 ∧ (gState on c o u).2 = u ∧ ∀ x ∈ c, -x ∈ on) ∨ (o = 0 ∧ (gState on c o u).2 ∈ c ∧ (gState on c o u).2 ∉ on ∧ -(gState on c o u).2 ∉ on ∧ ∃ pre post, c = pre ++ (gState on c o u).2 :: post ∧ ∀ x ∈ pre ++ post, -x ∈ on))) ∨
    ((gState on c o u).1 = 2 ∧ (2 ≤ o ∨ (o = 1 ∧ ∃ x ∈ c, x ∉ on ∧ -x ∉ on) ∨ (o = 0 ∧ ∃ pre x mid y post, c = pre ++ x :: mid ++ y :: post ∧ x ∉ on ∧ -x ∉ on ∧ y ∉ on ∧ -y ∉ on)))
  | [], o, u, h0 => by
    simp only [gState]
    by_cases e0 : o = 0
    · rw [if_pos e0]; right; left; simp [e0]
    · rw [if_neg e0]
      by_cases e1 : o = 1
      · rw [if_pos e1]; right; right; left; simp [e1]
      · rw [if_neg e1]; right; right; right; simp; omega
  | x :: xs, o, u, h0 => by
    simp only [gState]
    rcases gVal_cases x on with hv | hv | hv
    · rw [if_pos hv]; left; exact ⟨rfl, x, by simp, gVal_one hv⟩
    · rw [if_neg (by omega), if_neg (by omega)]
      have hn := gVal_neg hv
      rcases gState_is on xs o u h0 with ⟨h1, y, hy, hy2⟩ | ⟨h1, h2, h3⟩ | ⟨h1, h2⟩ | ⟨h1, h2⟩
      · left; exact ⟨h1, y, by simp [hy], hy2⟩
      · right; left
        refine ⟨h1, h2, ?_⟩
        intro y hy
        simp only [List.mem_cons] at hy
        rcases hy with rfl | hy
        · exact hn
        · exact h3 y hy
      · right; right; left
        refine ⟨h1, ?_⟩
        rcases h2 with ⟨a, b, c⟩ | ⟨a, b, c, d, pre, post, e, f⟩
        · left
          refine ⟨a, b, ?_⟩
          intro y hy
          simp only [List.mem_cons] at hy
          rcases hy with rfl | hy
          · exact hn
          · exact c y hy
        · right
          refine ⟨a, by simp [b], c, d, x :: pre, post, by rw [List.cons_append, ← e], ?_⟩
          intro y hy
          simp only [List.cons_append, List.mem_cons] at hy
          rcases hy with rfl | hy
          · exact hn
          · exact f y hy
      · right; right; right
        refine ⟨h1, ?_⟩
        rcases h2 with h2 | ⟨h2, y, hy, hz⟩ | ⟨h2, pre, y, mid, z, post, e, f⟩
        · exact .inl h2
        · exact .inr (.inl ⟨h2, y, by simp [hy], hz⟩)
        · exact .inr (.inr ⟨h2, x :: pre, y, mid, z, post, by rw [e]; simp, f⟩)
    · rw [if_neg (by omega), if_pos hv]
      have hz := gVal_zero hv
      rcases gState_is on xs (o + 1) x (by omega) with ⟨h1, y, hy, hy2⟩ | ⟨h1, h2, h3⟩ | ⟨h1, h2⟩ | ⟨h1, h2⟩
      · left; exact ⟨h1, y, by simp [hy], hy2⟩
      · omega
      · right; right; left
        refine ⟨h1, ?_⟩
        rcases h2 with ⟨a, b, c⟩ | ⟨a, _⟩
        · right
          refine ⟨by omega, by rw [b]; simp, by rw [b]; exact hz.1, by rw [b]; exact hz.2, [], xs, by rw [b]; rfl, by simpa using c⟩
        · omega
      · right; right; right
        refine ⟨h1, ?_⟩
        rcases h2 with h2 | ⟨h2, y, hy, hy2⟩ | ⟨h2, _⟩
        · by_cases e1 : o = 1
          · exact .inr (.inl ⟨e1, x, by simp, hz⟩)
          · exact .inl (by omega)
        · right; right
          obtain ⟨mid, post, e⟩ := List.append_of_mem hy
          exact ⟨by omega, [], x, mid, y, post, by rw [e]; simp, hz.1, hz.2, hy2.1, hy2.2⟩
        · omega
theorem OnOK.cons {on : List Int} (h : OnOK on) : Cons fun x => x ∈ on := by
  intro x hx hnx
  have hg := h.good x hx
  have ha := good_abs hg
  have : ∀ a ∈ on, ∀ b ∈ on, a ≠ b → a.natAbs ≠ b.natAbs := by
    intro a ha b hb hab
    have hd := h.vars
    rw [List.pairwise_iff_getElem] at hd
    obtain ⟨i, hi, rfl⟩ := List.mem_iff_getElem.1 ha
    obtain ⟨j, hj, rfl⟩ := List.mem_iff_getElem.1 hb
    rcases Nat.lt_trichotomy i j with h | h | h
    · exact hd i j hi hj h
    · subst h; exact absurd rfl hab
    · exact fun h0 => hd j i hj hi h h0.symm
  exact this x hx (-x) hnx (by omega) (by omega)
theorem OnOK.snoc {on : List Int} (h : OnOK on) {u : Int} (hu : goGoodLit u = true) (h1 : u ∉ on) (h2 : -u ∉ on) : OnOK (on ++ [u]) := by
  refine ⟨?_, ?_⟩
  · intro x hx
    rw [List.mem_append] at hx
    rcases hx with hx | hx
    · exact h.good x hx
    · simp at hx; rw [hx]; exact hu
  · rw [List.pairwise_append]
    refine ⟨h.vars, by simp, ?_⟩
    intro a ha b hb
    simp at hb
    subst hb
    intro h0
    have : a = b ∨ a = -b := by omega
    rcases this with rfl | rfl
    · exact h1 ha
    · exact h2 ha
theorem OnOK.len {on : List Int} (h : OnOK on) : on.length ≤ 12 := vars_len h.good h.vars

theorem gSweep_is (cs0 : List (List Int)) (D : Int → Prop) : ∀ (cs : List (List Int)) (on : List Int) (g : Bool), (∀ c ∈ cs, c ∈ cs0) → (∀ c ∈ cs, NF c) → OnOK on → (∀ S, Clo cs0 D S → ∀ x ∈ on, S x) →
    OnOK (gSweep cs on g).1 ∧ (∀ x ∈ on, x ∈ (gSweep cs on g).1) ∧ (∀ S, Clo cs0 D S → ∀ x ∈ (gSweep cs on g).1, S x) ∧ on.length ≤ (gSweep cs on g).1.length ∧
    ((gSweep cs on g).2.2 = true → Ref cs0 D) ∧ ((gSweep cs on g).2.2 = false → (g = true → (gSweep cs on g).2.1 = true) ∧ ((gSweep cs on g).2.1 = true → g = true ∨ on.length < (gSweep cs on g).1.length) ∧ ((gSweep cs on g).2.1 = false → (gSweep cs on g).1 = on ∧ ∀ c ∈ cs, ClC c fun x => x ∈ on))
  | [], on, g, _, _, hon, hf => by
    simp only [gSweep]
    refine ⟨hon, fun _ h => h, hf, Nat.le_refl _, by simp, ?_⟩
    intro _
    exact ⟨fun h => h, fun h => .inl h, fun _ => by simp⟩
  | c :: cs, on, g, hsub, hnf, hon, hf => by
    have hnc := hnf c (by simp)
    have hcc := hsub c (by simp)
    have hst := gState_is on c 0 0 (by omega)
    simp only [gSweep]
    generalize gState on c 0 0 = q at hst ⊢
    obtain ⟨q1, q2⟩ := q
    dsimp only at hst ⊢
    have rec_ := fun on' g' h1 h2 => gSweep_is cs0 D cs on' g' (fun c hc => hsub c (by simp [hc])) (fun c hc => hnf c (by simp [hc])) h1 h2
    have keep : (q1 = 1 ∨ q1 = 2) → ClC c (fun x => x ∈ on) := by
      intro hq
      rcases hst with ⟨h1, x, hx, hx2⟩ | ⟨h1, _⟩ | ⟨h1, _⟩ | ⟨h1, h2⟩
      · exact .inl ⟨x, hx, hx2⟩
      · omega
      · omega
      · rcases h2 with h2 | ⟨h2, _⟩ | ⟨_, pre, x, mid, y, post, e, a1, a2, a3, a4⟩
        · omega
        · omega
        · right
          refine ⟨x, by rw [e]; simp, y, by rw [e]; simp, ?_, a2, a4⟩
          have hp := hnc.2
          rw [e, List.append_assoc, List.pairwise_append] at hp
          have hp2 := hp.2.1
          rw [List.cons_append, List.pairwise_cons] at hp2
          have := hp2.1 y (by simp)
          intro h0
          subst h0
          omega
    rcases hst with ⟨h1, h2⟩ | ⟨h1, _, h3⟩ | ⟨h1, h2⟩ | ⟨h1, h2⟩
    · rw [if_neg (by omega), if_neg (by omega)]
      obtain ⟨r1, r2, r3, r4, r5, r6⟩ := rec_ on g hon hf
      refine ⟨r1, r2, r3, r4, r5, fun hb => ?_⟩
      obtain ⟨a, b, d⟩ := r6 hb
      refine ⟨a, b, fun hg => ⟨(d hg).1, ?_⟩⟩
      intro c' hc'
      simp only [List.mem_cons] at hc'
      rcases hc' with rfl | hc'
      · exact keep (.inl h1)
      · exact (d hg).2 c' hc'
    · rw [if_pos h1]
      refine ⟨hon, fun _ h => h, hf, Nat.le_refl _, fun _ => ?_, by simp⟩
      rintro ⟨S, hS⟩
      exact hS.not_false hcc fun x hx => hf S hS _ (h3 x hx)
    · rw [if_neg (by omega), if_pos h1]
      rcases h2 with ⟨h2, _⟩ | ⟨_, hm, hn1, hn2, pre, post, e, hfa⟩
      · omega
      · have hgu := hnc.1 q2 hm
        have hon' := hon.snoc hgu hn1 hn2
        have hf' : ∀ S, Clo cs0 D S → ∀ x ∈ on ++ [q2], S x := by
          intro S hS x hx
          rw [List.mem_append] at hx
          rcases hx with hx | hx
          · exact hf S hS x hx
          · simp at hx
            subst hx
            refine hS.unit hcc ?_ hm
            intro y hy hne
            refine hf S hS _ (hfa y ?_)
            rw [e] at hy
            simp only [List.mem_append, List.mem_cons] at hy ⊢
            rcases hy with hy | hy | hy
            · exact .inl hy
            · exact absurd hy hne
            · exact .inr hy
        obtain ⟨r1, r2, r3, r4, r5, r6⟩ := rec_ (on ++ [q2]) true hon' hf'
        have r4' : on.length < (gSweep cs (on ++ [q2]) true).1.length := by
          simp at r4; omega
        refine ⟨r1, fun x hx => r2 x (by simp [hx]), r3, by omega, r5, fun hb => ?_⟩
        obtain ⟨a, b, d⟩ := r6 hb
        refine ⟨fun _ => a rfl, fun _ => .inr r4', fun hg => ?_⟩
        rw [a rfl] at hg
        cases hg
    · rw [if_neg (by omega), if_neg (by omega)]
      obtain ⟨r1, r2, r3, r4, r5, r6⟩ := rec_ on g hon hf
      refine ⟨r1, r2, r3, r4, r5, fun hb => ?_⟩
      obtain ⟨a, b, d⟩ := r6 hb
      refine ⟨a, b, fun hg => ⟨(d hg).1, ?_⟩⟩
      intro c' hc'
      simp only [List.mem_cons] at hc'
      rcases hc' with rfl | hc'
      · exact keep (.inr h1)
      · exact (d hg).2 c' hc'
theorem gClosure_is (cs : List (List Int)) (D : Int → Prop) (hnf : ∀ c ∈ cs, NF c) : ∀ (n : Nat) (on : List Int), OnOK on → (∀ S, Clo cs D S → ∀ x ∈ on, S x) → (∀ x, D x → x ∈ on) → 12 < on.length + n → ((gClosure cs n on).2 = true ↔ Ref cs D)
  | 0, on, hon, _, _, hn => by have := hon.len; omega
  | n + 1, on, hon, hf, hd, hn => by
    simp only [gClosure]
    obtain ⟨r1, r2, r3, r4, r5, r6⟩ := gSweep_is cs D cs on false (fun _ h => h) hnf hon hf
    generalize gSweep cs on false = q at r1 r2 r3 r4 r5 r6 ⊢
    obtain ⟨on', g, hit⟩ := q
    dsimp only at r1 r2 r3 r4 r5 r6 ⊢
    cases hit with
    | true => simpa using r5 rfl
    | false =>
      obtain ⟨_, b, d⟩ := r6 rfl
      rw [if_neg (by simp)]
      cases g with
      | false =>
        rw [if_pos rfl]
        obtain ⟨e, hcl⟩ := d rfl
        constructor
        · intro h; cases h
        · intro h
          exact absurd ⟨fun x => x ∈ on, hon.cons, hd, hcl⟩ h
      | true =>
        rw [if_neg (by simp)]
        have := (b rfl).resolve_left (by simp)
        exact gClosure_is cs D hnf n on' r1 r3 (fun x hx => r2 x (hd x hx)) (by omega)
theorem NF.neg {c : List Int} (h : NF c) : OnOK (c.map fun x => -x) := by
  refine ⟨?_, ?_⟩
  · intro x hx
    obtain ⟨y, hy, rfl⟩ := List.mem_map.1 hx
    have := good_abs (h.1 y hy)
    have h2 := h.1 y hy
    simp [goGoodLit] at h2 ⊢
    omega
  · rw [List.pairwise_map]
    exact h.2.orMap fun h h0 => by omega

theorem gRup_iff {cs : List (List Int)} {c : List Int} (hnf : ∀ c ∈ cs, NF c) (hc : NF c) : gRup cs c = true ↔ Ref cs fun x => -x ∈ c := by
  unfold gRup
  refine gClosure_is cs _ hnf 13 _ hc.neg ?_ ?_ (by omega)
  · intro S hS x hx
    obtain ⟨y, hy, rfl⟩ := List.mem_map.1 hx
    exact hS.inc _ (by simpa using hy)
  · intro x hx
    exact List.mem_map.2 ⟨-x, hx, by simp⟩

theorem gRup_perm {cs cs' : List (List Int)} {c : List Int} (hnf : ∀ c ∈ cs, NF c) (hc : NF c) (h : ∀ x, x ∈ cs ↔ x ∈ cs') : gRup cs c = gRup cs' c := by
  have hnf' : ∀ c ∈ cs', NF c := fun c hc' => hnf c ((h c).2 hc')
  rw [Bool.eq_iff_iff, gRup_iff hnf hc, gRup_iff hnf' hc]
  exact ⟨fun h1 => h1.mono (fun c hc' => (h c).1 hc') (fun _ h => h), fun h1 => h1.mono (fun c hc' => (h c).2 hc') (fun _ h => h)⟩
end Go.Proofs.Qxb6500974aGreat
