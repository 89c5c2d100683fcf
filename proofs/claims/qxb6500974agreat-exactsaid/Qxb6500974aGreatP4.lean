import Derived.Test.Qxb6500974aGreatP3
import Derived.Test.Qxb6500974aGreatR16
import Derived.Test.Qxb6500974aGreatR17
set_option linter.all false
set_option linter.unusedSimpArgs false
set_option linter.unusedVariables false
namespace Go.Proofs.Qxb6500974aGreat
open Go.Eng

theorem levOf_ent {t : Tr} (g : t.Good) {e : Ent} (he : e ∈ t.es) {x : Int} (hx : x.natAbs = e.lit.natAbs) : t.levOf (goVar x) = e.lev ∧ t.rsnOf (goVar x) = e.rsn := by
  have ha := good_abs (g.lits e he)
  have hv : goVar x = (e.lit.natAbs : Int) := by
    have hgx : goGoodLit x = true := by
      have : x = e.lit ∨ x = -e.lit := by omega
      rcases this with rfl | rfl
      · exact g.lits e he
      · exact good_neg (g.lits e he)
    rw [(good_abs hgx).2.2.2.2, hx]
  have hiv : goIsVar ((e.lit.natAbs : Nat) : Int) = true := isVar_iff.2 (by omega)
  unfold Tr.levOf Tr.rsnOf
  rw [hv, if_pos hiv, if_pos hiv]
  simp only [Int.natAbs_natCast]
  rw [entOf_of g.vars he]
  exact ⟨rfl, rfl⟩
theorem stair_mono : ∀ {es : List Ent} {p d : Nat}, stair p es d → ∀ {i j : Nat} {e f : Ent}, i ≤ j → es[i]? = some e → es[j]? = some f → e.lev ≤ f.lev
  | [], _, _, _, i, j, e, f, _, h, _ => by simp at h
  | x :: xs, p, d, hs, i, j, e, f, hij, he, hf => by
    cases i with
    | zero =>
      simp at he
      subst he
      cases j with
      | zero => simp at hf; subst hf; exact Nat.le_refl _
      | succ j =>
        simp at hf
        exact ((stair_le hs.2).2.2 f (List.mem_of_getElem? hf)).1
    | succ i =>
      cases j with
      | zero => omega
      | succ j =>
        simp at he hf
        exact stair_mono hs.2 (by omega) he hf
theorem lev_le {t : Tr} (g : t.Good) {e : Ent} (he : e ∈ t.es) : e.lev ≤ t.dep := ((stair_le g.st).2.2 e he).2
theorem prev_ge {t : Tr} (g : t.Good) {i n : Nat} {e : Ent} (he : t.es[i]? = some e) (hn : i < n) (hl : n ≤ t.es.length) : e.lev ≤ prevL t.es n := by
  cases n with
  | zero => omega
  | succ n =>
    simp only [prevL]
    have hlt : n < t.es.length := by omega
    have := stair_mono g.st (show i ≤ n by omega) he (List.getElem?_eq_getElem hlt)
    simp [hlt]; exact this
theorem ent_lt {t : Tr} {i : Nat} {e : Ent} (he : t.es[i]? = some e) : i < t.es.length := pl_lt ⟨e, he, rfl⟩
theorem ent_inj {t : Tr} (g : t.Good) {i j : Nat} {e f : Ent} (he : t.es[i]? = some e) (hf : t.es[j]? = some f) (h : e.lit.natAbs = f.lit.natAbs) : i = j := pl_inj g ⟨e, he, rfl⟩ ⟨f, hf, rfl⟩ h
theorem at_ent {t : Tr} {i : Nat} {e : Ent} (he : t.es[i]? = some e) : t.at i = e.lit := by
  have hl := ent_lt he
  unfold Tr.at
  rw [if_pos (by omega)]
  simp [he]

def mk (t : Tr) (seen : Nat → Bool) (i : Nat) : Bool := match t.es[i]? with
  | some e => seen e.lit.natAbs && decide (e.lev = t.dep)
  | none => false
theorem mk_iff {t : Tr} {seen : Nat → Bool} {i : Nat} : mk t seen i = true ↔ ∃ e, t.es[i]? = some e ∧ seen e.lit.natAbs = true ∧ e.lev = t.dep := by
  unfold mk
  cases h : t.es[i]? with
  | none => simp
  | some e => simp
theorem cnt0 {t : Tr} : ∀ n, cntB (mk t fun _ => false) n = 0
  | 0 => rfl
  | n + 1 => by
    simp only [cntB]
    rw [cnt0 n, if_neg]
    intro h
    obtain ⟨e, _, h2, _⟩ := mk_iff.1 h
    cases h2
structure MI (t : Tr) (n : Nat) (s : Ln) : Prop where
  lv : s.lv = t.dep
  asg : ∀ v, s.seen v = true → ∃ e ∈ t.es, e.lit.natAbs = v
  hs : ∀ x, s.has x = true → s.seen x.natAbs = true ∧ ∃ e ∈ t.es, e.lit = -x ∧ 0 < e.lev ∧ e.lev < t.dep
  hc : ∀ e ∈ t.es, s.seen e.lit.natAbs = true → 0 < e.lev → e.lev < t.dep → s.has (-e.lit) = true
  cnt : s.opn = (cntB (mk t s.seen) n : Nat)
theorem gMark_is {t : Tr} {n : Nat} {s : Ln} {l : Int} (g : t.Good) (h : MI t n s) (hl : s.seen l.natAbs = true ∨ ∃ i, i < n ∧ t.pl i (-l)) :
    (gMark t s l).2 = true ∧ MI t n (gMark t s l).1 ∧ ∀ v, (gMark t s l).1.seen v = true ↔ s.seen v = true ∨ v = l.natAbs := by
  unfold gMark
  by_cases hsn : s.seen l.natAbs = true
  · rw [if_pos hsn]
    exact ⟨rfl, h, fun v => ⟨.inl, fun h0 => h0.elim id (fun h1 => by rw [h1]; exact hsn)⟩⟩
  · rw [if_neg hsn]
    obtain ⟨i, hi, e, he, hel⟩ := hl.resolve_left hsn
    have hm := List.mem_of_getElem? he
    have hab : l.natAbs = e.lit.natAbs := by rw [hel, Int.natAbs_neg]
    have hlev := (levOf_ent g hm hab).1
    have hle := lev_le g hm
    have hsf : s.seen e.lit.natAbs = false := by rw [← hab]; exact Bool.eq_false_iff.2 hsn
    rw [hlev, if_neg (by omega)]
    have sv : ∀ v, fupd s.seen l.natAbs true v = true ↔ s.seen v = true ∨ v = l.natAbs := by
      intro v
      by_cases hv : v = l.natAbs
      · subst hv; rw [fupd_at]; simp
      · rw [fupd_ne _ _ hv]; simp [hv]
    have as' : ∀ v, fupd s.seen l.natAbs true v = true → ∃ e ∈ t.es, e.lit.natAbs = v := by
      intro v hv
      rcases (sv v).1 hv with h1 | h1
      · exact h.asg v h1
      · exact ⟨e, hm, by rw [h1, hab]⟩
    have other : ∀ f ∈ t.es, f.lit.natAbs = l.natAbs → f = e := by
      intro f hf h0
      have h1 := entOf_of g.vars hf
      have h2 := entOf_of g.vars hm
      rw [h0, hab, h2] at h1
      cases h1; rfl
    have cntEq : e.lev ≠ t.dep → cntB (mk t (fupd s.seen l.natAbs true)) n = cntB (mk t s.seen) n := by
      intro hne
      refine cntB_congr n fun j _ => ?_
      rw [Bool.eq_iff_iff, mk_iff, mk_iff]
      constructor
      · rintro ⟨f, hf, h1, h2⟩
        rcases (sv _).1 h1 with h3 | h3
        · exact ⟨f, hf, h3, h2⟩
        · have := other f (List.mem_of_getElem? hf) h3
          subst this
          exact absurd h2 hne
      · rintro ⟨f, hf, h1, h2⟩
        exact ⟨f, hf, (sv _).2 (.inl h1), h2⟩
    by_cases hd : (e.lev : Int) = s.lv
    · rw [if_pos hd]
      have hd' : e.lev = t.dep := by rw [← h.lv]; omega
      refine ⟨rfl, ⟨h.lv, as', ?_, ?_, ?_⟩, sv⟩
      · intro x hx
        obtain ⟨h1, h2⟩ := h.hs x hx
        exact ⟨(sv _).2 (.inl h1), h2⟩
      · intro f hf h1 h2 h3
        rcases (sv _).1 h1 with h4 | h4
        · exact h.hc f hf h4 h2 h3
        · have := other f hf h4
          subst this; omega
      · dsimp only
        rw [h.cnt]
        have : cntB (mk t (fupd s.seen l.natAbs true)) n = cntB (mk t s.seen) n + 1 := by
          refine cntB_set (j := i) ?_ ?_ ?_ n hi
          · rw [Bool.eq_false_iff]
            intro h0
            obtain ⟨f, hf, h1, h2⟩ := mk_iff.1 h0
            rw [he] at hf; cases hf
            rw [hsf] at h1; cases h1
          · exact mk_iff.2 ⟨e, he, (sv _).2 (.inr hab.symm), hd'⟩
          · intro j hj
            rw [Bool.eq_iff_iff, mk_iff, mk_iff]
            constructor
            · rintro ⟨f, hf, h1, h2⟩
              exact ⟨f, hf, (sv _).2 (.inl h1), h2⟩
            · rintro ⟨f, hf, h1, h2⟩
              rcases (sv _).1 h1 with h3 | h3
              · exact ⟨f, hf, h3, h2⟩
              · exact absurd (ent_inj g hf he (by rw [h3, hab])) hj
        rw [this]; omega
    · rw [if_neg hd]
      have hd' : e.lev ≠ t.dep := by rw [← h.lv]; omega
      by_cases h0 : (e.lev : Int) > 0
      · rw [if_pos h0]
        refine ⟨rfl, ⟨h.lv, as', ?_, ?_, ?_⟩, sv⟩
        · intro x hx
          dsimp only [Ln.put] at hx ⊢
          by_cases hxl : x = l
          · subst hxl
            exact ⟨(sv _).2 (.inr rfl), e, hm, hel, by omega, by omega⟩
          · rw [if_neg hxl] at hx
            obtain ⟨h1, h2⟩ := h.hs x hx
            exact ⟨(sv _).2 (.inl h1), h2⟩
        · intro f hf h1 h2 h3
          dsimp only [Ln.put] at h1 ⊢
          by_cases hfl : -f.lit = l
          · rw [if_pos hfl]
          · rw [if_neg hfl]
            rcases (sv _).1 h1 with h4 | h4
            · exact h.hc f hf h4 h2 h3
            · have := other f hf h4
              subst this
              rw [hel, Int.neg_neg] at hfl
              exact absurd rfl hfl
        · dsimp only [Ln.put]
          rw [cntEq hd']; exact h.cnt
      · rw [if_neg h0]
        refine ⟨rfl, ⟨h.lv, as', ?_, ?_, ?_⟩, sv⟩
        · intro x hx
          obtain ⟨h1, h2⟩ := h.hs x hx
          exact ⟨(sv _).2 (.inl h1), h2⟩
        · intro f hf h1 h2 h3
          rcases (sv _).1 h1 with h4 | h4
          · exact h.hc f hf h4 h2 h3
          · have := other f hf h4
            subst this; omega
        · dsimp only
          rw [cntEq hd']; exact h.cnt
theorem gMarkAll_is {t : Tr} {n : Nat} (g : t.Good) : ∀ (ls : List Int) (s : Ln), MI t n s → (∀ x ∈ ls, s.seen x.natAbs = true ∨ ∃ i, i < n ∧ t.pl i (-x)) →
    (gMarkAll t s ls).2 = true ∧ MI t n (gMarkAll t s ls).1 ∧ ∀ v, (gMarkAll t s ls).1.seen v = true ↔ s.seen v = true ∨ ∃ x ∈ ls, v = x.natAbs
  | [], s, h, _ => by simp [gMarkAll]; exact h
  | l :: ls, s, h, hl => by
    simp only [gMarkAll]
    obtain ⟨a1, a2, a3⟩ := gMark_is g h (hl l (by simp))
    rw [if_pos a1]
    obtain ⟨b1, b2, b3⟩ := gMarkAll_is g ls (gMark t s l).1 a2 (fun x hx => (hl x (by simp [hx])).orMap (fun h0 => (a3 _).2 (.inl h0)) id)
    refine ⟨b1, b2, fun v => ?_⟩
    rw [b3, a3]
    simp only [List.mem_cons]
    constructor
    · rintro ((h1 | h1) | ⟨x, hx, h1⟩)
      · exact .inl h1
      · exact .inr ⟨l, .inl rfl, h1⟩
      · exact .inr ⟨x, .inr hx, h1⟩
    · rintro (h1 | ⟨x, rfl | hx, h1⟩)
      · exact .inl (.inl h1)
      · exact .inl (.inr h1)
      · exact .inr ⟨x, hx, h1⟩

def RSeen (w : Wt) (s : Ln) (e : Ent) : Prop := ∃ r : Nat, e.rsn = r ∧ (w r).st ≠ 0 ∧ ∀ x ∈ (w r).lits, s.seen x.natAbs = true
theorem cntB_pos {f : Nat → Bool} : ∀ {n : Nat}, 0 < cntB f n → ∃ i, i < n ∧ f i = true
  | 0, h => by simp [cntB] at h
  | n + 1, h => by
    simp only [cntB] at h
    by_cases hf : f n = true
    · exact ⟨n, by omega, hf⟩
    · rw [if_neg hf] at h
      obtain ⟨i, hi, h1⟩ := cntB_pos (n := n) (by omega)
      exact ⟨i, by omega, h1⟩
theorem cntB_pos' {f : Nat → Bool} {i : Nat} : ∀ {n : Nat}, i < n → f i = true → 0 < cntB f n
  | 0, h, _ => by omega
  | n + 1, h, hf => by
    simp only [cntB]
    by_cases he : i = n
    · subst he; rw [if_pos hf]; omega
    · have := cntB_pos' (n := n) (f := f) (i := i) (by omega) hf
      omega
structure CI (w : Wt) (t : Tr) (cl : List Int) (n : Nat) (s : Ln) : Prop where
  mi : MI t n s
  conf : ∀ x ∈ cl, s.seen x.natAbs = true
  res : ∀ i e, n ≤ i → t.es[i]? = some e → s.seen e.lit.natAbs = true → e.lev = t.dep → RSeen w s e
  pos : 0 < s.opn

structure CE (w : Wt) (t : Tr) (cl : List Int) (s : Ln) (ip : Nat) (e : Ent) : Prop where
  at_ : t.es[ip]? = some e
  lev : e.lev = t.dep
  seen : s.seen e.lit.natAbs = true
  asg : ∀ v, s.seen v = true → ∃ e ∈ t.es, e.lit.natAbs = v
  hs : ∀ x, s.has x = true → s.seen x.natAbs = true ∧ ∃ e ∈ t.es, e.lit = -x ∧ 0 < e.lev ∧ e.lev < t.dep
  hc : ∀ e ∈ t.es, s.seen e.lit.natAbs = true → 0 < e.lev → e.lev < t.dep → s.has (-e.lit) = true
  conf : ∀ x ∈ cl, s.seen x.natAbs = true
  res : ∀ i f, ip < i → t.es[i]? = some f → s.seen f.lit.natAbs = true → f.lev = t.dep → RSeen w s f
  low : ∀ i f, i < ip → t.es[i]? = some f → s.seen f.lit.natAbs = true → f.lev ≠ t.dep
theorem mem_nf {l : List Int} (g : ∀ x ∈ l, goGoodLit x = true) (hd : l.Pairwise fun a b => a.natAbs ≠ b.natAbs) (x : Int) : x ∈ nf l ↔ x ∈ l := (nf_perm g hd).mem_iff
theorem gClimb_is {w : Wt} {t : Tr} {cl : List Int} (hpi : PI w t t.cur) : ∀ (n : Nat) (s : Ln), n ≤ t.es.length → CI w t cl n s → ∃ ip e, CE w t cl (gClimb w t n s).1 ip e ∧ (gClimb w t n s).2 = e.lit
  | 0, s, _, h => by
    have := h.mi.cnt
    have := h.pos
    simp only [cntB] at *
    omega
  | n + 1, s, hn, h => by
    have g := hpi.tg
    have hlt : n < t.es.length := by omega
    obtain ⟨e, he⟩ : ∃ e, t.es[n]? = some e := ⟨_, List.getElem?_eq_getElem hlt⟩
    have hm := List.mem_of_getElem? he
    have hat : t.at (n : Int) = e.lit := at_ent he
    have hlr := levOf_ent g hm rfl
    simp only [gClimb]
    rw [hat, hlr.1, hlr.2]
    have hcnt := h.mi.cnt
    simp only [cntB] at hcnt
    have hpos := h.pos
    have down : ¬ (s.seen e.lit.natAbs = true ∧ e.lev = t.dep) → CI w t cl n s := by
      intro hno
      have hmk : ¬ mk t s.seen n = true := by
        intro h0
        obtain ⟨f, hf, h1, h2⟩ := mk_iff.1 h0
        rw [he] at hf; cases hf
        exact hno ⟨h1, h2⟩
      rw [if_neg hmk] at hcnt
      refine ⟨⟨h.mi.lv, h.mi.asg, h.mi.hs, h.mi.hc, by omega⟩, h.conf, ?_, hpos⟩
      intro i f hi hf h1 h2
      by_cases hin : i = n
      · subst hin; rw [he] at hf; cases hf; exact absurd ⟨h1, h2⟩ hno
      · exact h.res i f (by omega) hf h1 h2
    by_cases hs : s.seen e.lit.natAbs = true
    · rw [if_pos hs]
      by_cases hlv : (e.lev : Int) = s.lv
      · rw [if_pos hlv]
        have hd : e.lev = t.dep := by rw [← h.mi.lv]; omega
        have hmk : mk t s.seen n = true := mk_iff.2 ⟨e, he, hs, hd⟩
        rw [if_pos hmk] at hcnt
        by_cases ho : s.opn - 1 = 0
        · rw [if_pos ho]
          refine ⟨n, e, ⟨he, hd, hs, h.mi.asg, h.mi.hs, h.mi.hc, h.conf, fun i f hi hf => h.res i f (by omega) hf, ?_⟩, rfl⟩
          intro i f hi hf h1 h2
          have hz : cntB (mk t s.seen) n = 0 := by omega
          have h1' : s.seen f.lit.natAbs = true := h1
          have := cntB_pos' hi (mk_iff.2 ⟨f, hf, h1', h2⟩)
          omega
        · rw [if_neg ho]
          have hcn : 0 < cntB (mk t s.seen) n := by omega
          obtain ⟨i, hi, hmi⟩ := cntB_pos hcn
          obtain ⟨f, hf, hf1, hf2⟩ := mk_iff.1 hmi
          rcases hpi.rs n e he with ⟨h1, h2⟩ | ⟨r, h1, h2, h3, h4, h5, h6⟩
          · have := prev_ge g hf hi (by omega)
            omega
          · have hlive : liveB w e.rsn = true := by rw [h1]; simp [liveB, h3]
            rw [if_pos hlive]
            have hrn : e.rsn.toNat = r := by rw [h1]; simp
            rw [hrn]
            have gcl := hpi.wg.cl r
            have hmem := mem_nf gcl.good gcl.vars
            have hmi1 : MI t n { s with opn := s.opn - 1 } := ⟨h.mi.lv, h.mi.asg, h.mi.hs, h.mi.hc, by dsimp only; omega⟩
            have hmall := gMarkAll_is g (nf (w r).lits) { s with opn := s.opn - 1 } hmi1 (by
              intro x hx
              by_cases hxe : x = e.lit
              · left; dsimp only; rw [hxe]; exact hs
              · right; exact h6 x ((hmem x).1 hx) hxe)
            have hop := gMarkAll_opn t (nf (w r).lits) { s with opn := s.opn - 1 }
            generalize gMarkAll t { s with opn := s.opn - 1 } (nf (w r).lits) = q at hmall hop ⊢
            obtain ⟨s', b⟩ := q
            dsimp only at hmall hop ⊢
            obtain ⟨m1, m2, m3⟩ := hmall
            rw [if_pos m1]
            refine gClimb_is hpi n s' (by omega) ⟨m2, fun x hx => (m3 _).2 (.inl (h.conf x hx)), ?_, by omega⟩
            intro j f' hj hf' g1 g2
            by_cases hjn : j = n
            · subst hjn
              rw [he] at hf'; cases hf'
              exact ⟨r, h1, h3, fun x hx => (m3 _).2 (.inr ⟨x, (hmem x).2 hx, rfl⟩)⟩
            · have gold : s.seen f'.lit.natAbs = true := by
                rcases (m3 _).1 g1 with g3 | ⟨x, hx, g3⟩
                · exact g3
                · exfalso
                  by_cases hxe : x = e.lit
                  · rw [hxe] at g3
                    exact hjn (ent_inj g hf' he g3)
                  · obtain ⟨k, hk, hpk⟩ := h6 x ((hmem x).1 hx) hxe
                    have := pl_inj g ⟨f', hf', rfl⟩ hpk (by rw [Int.natAbs_neg]; exact g3)
                    omega
              obtain ⟨r', q1, q2, q3⟩ := h.res j f' (by omega) hf' gold g2
              exact ⟨r', q1, q2, fun x hx => (m3 _).2 (.inl (q3 x hx))⟩
      · rw [if_neg hlv]
        refine gClimb_is hpi n s (by omega) (down fun h0 => hlv ?_)
        have := h.mi.lv
        omega
    · rw [if_neg hs]
      exact gClimb_is hpi n s (by omega) (down fun h0 => hs h0.1)

def kept (w : Wt) (t : Tr) (s : Ln) (a x : Int) : Prop := x = a ∨ gSpare w t s x = false
theorem gShrinkA_is (w : Wt) (t : Tr) (s : Ln) (a : Int) (ha : a ≠ 0) : ∀ (n v : Nat) (out : List Int) (back : Int),
    (∀ x, x ∈ (gShrinkA w t s a n v out back).1 ↔ x ∈ out ∨ ∃ u, v ≤ u ∧ u < v + n ∧ gLitOf s u = x ∧ x ≠ 0 ∧ kept w t s a x) ∧
    back ≤ (gShrinkA w t s a n v out back).2 ∧
    (∀ u, v ≤ u → u < v + n → gLitOf s u ≠ 0 → gLitOf s u ≠ a → gSpare w t s (gLitOf s u) = false → t.levOf u ≤ (gShrinkA w t s a n v out back).2) ∧
    ((gShrinkA w t s a n v out back).2 = back ∨ ∃ u, v ≤ u ∧ u < v + n ∧ gLitOf s u ≠ 0 ∧ gLitOf s u ≠ a ∧ gSpare w t s (gLitOf s u) = false ∧ t.levOf u = (gShrinkA w t s a n v out back).2) ∧
    (out.Pairwise (fun a b => a.natAbs < b.natAbs) → (∀ x ∈ out, x.natAbs < v) → (gShrinkA w t s a n v out back).1.Pairwise fun a b => a.natAbs < b.natAbs)
  | 0, v, out, back => by
    simp only [gShrinkA]
    refine ⟨fun x => ⟨.inl, fun h => h.elim id ?_⟩, Int.le_refl _, fun u h1 h2 => by omega, by simp, fun h _ => h⟩
    rintro ⟨u, h1, h2, _⟩; omega
  | n + 1, v, out, back => by
    have hab : (gLitOf s v).natAbs = v ∨ gLitOf s v = 0 := by
      unfold gLitOf
      split
      · left; omega
      · split
        · left; omega
        · right; rfl
    have psnoc : ∀ {q : Int}, q.natAbs = v → out.Pairwise (fun a b => a.natAbs < b.natAbs) → (∀ x ∈ out, x.natAbs < v) → (out ++ [q]).Pairwise (fun a b => a.natAbs < b.natAbs) ∧ ∀ x ∈ out ++ [q], x.natAbs < v + 1 := by
      intro q hq hp hb
      refine ⟨?_, ?_⟩
      · rw [List.pairwise_append]
        refine ⟨hp, by simp, ?_⟩
        intro x hx y hy
        simp at hy
        subst hy
        have := hb x hx; omega
      · intro x hx
        rw [List.mem_append] at hx
        rcases hx with hx | hx
        · have := hb x hx; omega
        · simp at hx; subst hx; omega
    simp only [gShrinkA]
    generalize hq : gLitOf s v = q at hab ⊢

    have memT : ∀ bk, (q ≠ 0 ∧ kept w t s a q) → (∀ x, x ∈ (gShrinkA w t s a n (v + 1) (out ++ [q]) bk).1 ↔ x ∈ out ++ [q] ∨ ∃ u, v + 1 ≤ u ∧ u < v + 1 + n ∧ gLitOf s u = x ∧ x ≠ 0 ∧ kept w t s a x) →
        ∀ x, x ∈ (gShrinkA w t s a n (v + 1) (out ++ [q]) bk).1 ↔ x ∈ out ∨ ∃ u, v ≤ u ∧ u < v + (n + 1) ∧ gLitOf s u = x ∧ x ≠ 0 ∧ kept w t s a x := by
      intro bk hk h x
      rw [h, List.mem_append, List.mem_singleton]
      constructor
      · rintro ((h1 | rfl) | ⟨u, h1, h2, h3⟩)
        · exact .inl h1
        · exact .inr ⟨v, by omega, by omega, hq, hk⟩
        · exact .inr ⟨u, by omega, by omega, h3⟩
      · rintro (h1 | ⟨u, h1, h2, h3, h4⟩)
        · exact .inl (.inl h1)
        · by_cases he : u = v
          · subst he; rw [hq] at h3; exact .inl (.inr h3.symm)
          · exact .inr ⟨u, by omega, by omega, h3, h4⟩
    have memF : ∀ bk, ¬ (q ≠ 0 ∧ kept w t s a q) → (∀ x, x ∈ (gShrinkA w t s a n (v + 1) out bk).1 ↔ x ∈ out ∨ ∃ u, v + 1 ≤ u ∧ u < v + 1 + n ∧ gLitOf s u = x ∧ x ≠ 0 ∧ kept w t s a x) →
        ∀ x, x ∈ (gShrinkA w t s a n (v + 1) out bk).1 ↔ x ∈ out ∨ ∃ u, v ≤ u ∧ u < v + (n + 1) ∧ gLitOf s u = x ∧ x ≠ 0 ∧ kept w t s a x := by
      intro bk hk h x
      rw [h]
      constructor
      · rintro (h1 | ⟨u, h1, h2, h3⟩)
        · exact .inl h1
        · exact .inr ⟨u, by omega, by omega, h3⟩
      · rintro (h1 | ⟨u, h1, h2, h3, h4⟩)
        · exact .inl h1
        · by_cases he : u = v
          · subst he; rw [hq] at h3; subst h3; exact absurd h4 hk
          · exact .inr ⟨u, by omega, by omega, h3, h4⟩
    by_cases hqa : q = a
    · rw [if_pos hqa]
      obtain ⟨r1, r2, r3, r4, r5⟩ := gShrinkA_is w t s a ha n (v + 1) (out ++ [q]) back
      have hq0 : q ≠ 0 := by rw [hqa]; exact ha
      refine ⟨memT back ⟨hq0, .inl hqa⟩ r1, r2, ?_, ?_, fun hp hb => ?_⟩
      · intro u h1 h2 h3 h4
        by_cases he : u = v
        · subst he; rw [hq] at h4; exact absurd hqa h4
        · exact r3 u (by omega) (by omega) h3 h4
      · refine r4.orMap id ?_
        rintro ⟨u, h1, h2, h3⟩
        exact ⟨u, by omega, by omega, h3⟩
      · have := psnoc (hab.resolve_right hq0) hp hb
        exact r5 this.1 this.2
    · rw [if_neg hqa]
      by_cases hq0 : q ≠ 0
      · rw [if_pos hq0]
        by_cases hsp : gSpare w t s q = true
        · rw [if_pos hsp]
          obtain ⟨r1, r2, r3, r4, r5⟩ := gShrinkA_is w t s a ha n (v + 1) out back
          refine ⟨memF back ?_ r1, r2, ?_, ?_, fun hp hb => r5 hp (fun x hx => by have := hb x hx; omega)⟩
          · rintro ⟨_, h1 | h1⟩
            · exact hqa h1
            · rw [hsp] at h1; cases h1
          · intro u h1 h2 h3 h4 h5
            by_cases he : u = v
            · subst he; rw [hq, hsp] at h5; cases h5
            · exact r3 u (by omega) (by omega) h3 h4 h5
          · refine r4.orMap id ?_
            rintro ⟨u, h1, h2, h3⟩
            exact ⟨u, by omega, by omega, h3⟩
        · rw [if_neg hsp]
          have hsf := Bool.eq_false_iff.2 hsp
          obtain ⟨r1, r2, r3, r4, r5⟩ := gShrinkA_is w t s a ha n (v + 1) (out ++ [q]) (if t.levOf v > back then t.levOf v else back)
          generalize hbk : (if t.levOf v > back then t.levOf v else back) = bk at r1 r2 r3 r4 r5 ⊢
          have hbk2 : back ≤ bk ∧ t.levOf v ≤ bk ∧ (bk = back ∨ bk = t.levOf v) := by rw [← hbk]; split <;> omega
          refine ⟨memT bk ⟨hq0, .inr hsf⟩ r1, by omega, ?_, ?_, fun hp hb => ?_⟩
          · intro u h1 h2 h3 h4 h5
            by_cases he : u = v
            · subst he; omega
            · exact r3 u (by omega) (by omega) h3 h4 h5
          · rcases r4 with r4 | ⟨u, h1, h2, h3⟩
            · rcases hbk2.2.2 with h | h
              · exact .inl (by omega)
              · exact .inr ⟨v, by omega, by omega, by rw [hq]; exact hq0, by rw [hq]; exact hqa, by rw [hq]; exact hsf, by omega⟩
            · exact .inr ⟨u, by omega, by omega, h3⟩
          · have := psnoc (hab.resolve_right hq0) hp hb
            exact r5 this.1 this.2
      · rw [if_neg hq0]
        obtain ⟨r1, r2, r3, r4, r5⟩ := gShrinkA_is w t s a ha n (v + 1) out back
        refine ⟨memF back (fun h0 => hq0 h0.1) r1, r2, ?_, ?_, fun hp hb => r5 hp (fun x hx => by have := hb x hx; omega)⟩
        · intro u h1 h2 h3 h4 h5
          by_cases he : u = v
          · subst he; rw [hq] at h3; exact absurd h3 hq0
          · exact r3 u (by omega) (by omega) h3 h4 h5
        · refine r4.orMap id ?_
          rintro ⟨u, h1, h2, h3⟩
          exact ⟨u, by omega, by omega, h3⟩

def Cov (w : Wt) (cs : List (List Int)) : Prop := ∀ id, (w id).st ≠ 0 → ∃ c ∈ cs, ∀ x, x ∈ c ↔ x ∈ (w id).lits
theorem Clo.unitW {w : Wt} {cs : List (List Int)} {D S : Int → Prop} (h : Clo cs D S) (hc : Cov w cs) {r : Nat} (hr : (w r).st ≠ 0) {u : Int} (hu : u ∈ (w r).lits) (hf : ∀ x ∈ (w r).lits, x ≠ u → S (-x)) : S u := by
  obtain ⟨c, h1, h2⟩ := hc r hr
  exact h.unit h1 (fun x hx hne => hf x ((h2 x).1 hx) hne) ((h2 u).2 hu)
theorem lev0_in {w : Wt} {t : Tr} {cs : List (List Int)} {D S : Int → Prop} (hpi : PI w t t.cur) (hcov : Cov w cs) (hS : Clo cs D S) : ∀ (i : Nat) (e : Ent), t.es[i]? = some e → e.lev = 0 → S e.lit := by
  intro i
  induction i using Nat.strongRecOn with
  | ind i ih =>
    intro e he h0
    rcases hpi.rs i e he with ⟨_, h2⟩ | ⟨r, h1, h2, h3, h4, h5, h6⟩
    · omega
    · refine hS.unitW hcov h3 h4 fun x hx hne => ?_
      obtain ⟨j, hj, f, hf, hfl⟩ := h6 x hx hne
      have := stair_mono hpi.tg.st (Nat.le_of_lt hj) hf he
      have := ih j hj f hf (by omega)
      rw [hfl] at this; exact this

structure Learn (w : Wt) (t : Tr) (A : Lrn) : Prop where
  err : A.err = 0
  nf : NF A.lits
  ast : A.ast ∈ A.lits ∧ ∃ (i : Nat) (e : Ent), t.es[i]? = some e ∧ e.lit = -A.ast ∧ e.lev = t.dep
  oth : ∀ x ∈ A.lits, x ≠ A.ast → ∃ e ∈ t.es, e.lit = -x ∧ 0 < e.lev ∧ (e.lev : Int) ≤ A.back
  back : 0 ≤ A.back ∧ A.back < t.dep
  top : A.back ≠ 0 → ∃ x ∈ A.lits, x ≠ A.ast ∧ ∃ e ∈ t.es, e.lit = -x ∧ (e.lev : Int) = A.back
  ref : ∀ cs, Cov w cs → Ref cs fun x => -x ∈ A.lits
theorem analyze_is {w : Wt} {t : Tr} {c : Nat} (hpi : PI w t t.cur) (hall : ∀ x ∈ (w c).lits, t.value x = -1) (hst : (w c).st ≠ 0) (hd : t.dep ≠ 0)
    (hlow : ClC (w c).lits fun x => ∃ e ∈ t.es, e.lit = x ∧ e.lev < t.dep) : Learn w t (gAnalyze w t c) := by
  have g := hpi.tg
  have gcl := hpi.wg.cl c
  have hmem := mem_nf gcl.good gcl.vars
  have hfalse : ∀ x ∈ (w c).lits, t.tr (-x) := fun x hx => (val_m1 g (gcl.good x hx)).1 (hall x hx)

  have mi0 : MI t t.es.length { Ln.clean with lv := t.dep } := by
    refine ⟨rfl, fun v h => by simp [Ln.clean] at h, fun x h => by simp [Ln.clean] at h, fun e _ h => by simp [Ln.clean] at h, ?_⟩
    have : cntB (mk t fun _ => false) t.es.length = 0 := cnt0 t.es.length
    show (0 : Int) = ((cntB (mk t fun _ => false) t.es.length : Nat) : Int)
    rw [this]; rfl
  obtain ⟨m1, m2, m3⟩ := gMarkAll_is g (nf (w c).lits) _ mi0 (by
    intro x hx
    obtain ⟨i, hi⟩ := tr_pl.1 (hfalse x ((hmem x).1 hx))
    exact .inr ⟨i, pl_lt hi, hi⟩)
  unfold gAnalyze
  rw [if_neg hd]
  generalize gMarkAll t { Ln.clean with lv := t.dep } (nf (w c).lits) = q at m1 m2 m3 ⊢
  obtain ⟨s1, b1⟩ := q
  dsimp only at m1 m2 m3 ⊢
  have hseen : ∀ x ∈ (w c).lits, s1.seen x.natAbs = true := fun x hx => (m3 _).2 (.inr ⟨x, (hmem x).2 hx, rfl⟩)
  have hpos : 0 < s1.opn := by
    rw [m2.cnt]
    have : ∃ x ∈ (w c).lits, ¬ ∃ e ∈ t.es, e.lit = -x ∧ e.lev < t.dep := by
      rcases hlow with ⟨x, hx, e, he, hel, _⟩ | ⟨x, hx, y, hy, hne, h1, _⟩
      · exfalso
        exact tr_cons g x ⟨e, he, hel⟩ (hfalse x hx)
      · exact ⟨x, hx, h1⟩
    obtain ⟨x, hx, hno⟩ := this
    obtain ⟨i, e, he, hel⟩ := tr_pl.1 (hfalse x hx)
    have hm := List.mem_of_getElem? he
    have hle := lev_le g hm
    have hlev : e.lev = t.dep := by
      rcases Nat.lt_or_ge e.lev t.dep with h | h
      · exact absurd ⟨e, hm, hel, h⟩ hno
      · omega
    have hab : e.lit.natAbs = x.natAbs := by rw [hel, Int.natAbs_neg]
    have := cntB_pos' (ent_lt he) (mk_iff.2 ⟨e, he, by rw [hab]; exact hseen x hx, hlev⟩)
    omega
  rw [if_neg (by omega)]
  obtain ⟨ip, e, ce, hres⟩ := gClimb_is (cl := (w c).lits) hpi t.es.length s1 (Nat.le_refl _) ⟨m2, hseen, fun i f hi hf => by have := ent_lt hf; omega, hpos⟩
  generalize gClimb w t t.es.length s1 = q at ce hres ⊢
  obtain ⟨s, p⟩ := q
  dsimp only at ce hres ⊢
  subst hres
  have hem := List.mem_of_getElem? ce.at_
  have hge := g.lits e hem
  have hae := good_abs hge
  rw [if_neg hae.1]

  have has2 : ∀ x, (s.put (-e.lit)).has x = true ↔ x = -e.lit ∨ s.has x = true := by
    intro x
    dsimp only [Ln.put]
    by_cases h : x = -e.lit
    · simp [h]
    · simp [h]
  have hasT : ∀ x, (s.put (-e.lit)).has x = true → ∃ f ∈ t.es, f.lit = -x ∧ 0 < f.lev ∧ (x = -e.lit → f = e) ∧ (x ≠ -e.lit → f.lev < t.dep) := by
    intro x hx
    rcases (has2 x).1 hx with rfl | h
    · exact ⟨e, hem, by simp, by rw [ce.lev]; omega, fun _ => rfl, fun h0 => absurd rfl h0⟩
    · obtain ⟨_, f, hf, h1, h2, h3⟩ := ce.hs x h
      refine ⟨f, hf, h1, h2, fun h0 => ?_, fun _ => h3⟩
      subst h0
      rw [Int.neg_neg] at h1
      have a1 := entOf_of g.vars hf
      have a2 := entOf_of g.vars hem
      rw [h1, a2] at a1
      cases a1; rfl
  have hgood2 : ∀ x, (s.put (-e.lit)).has x = true → goGoodLit x = true := by
    intro x hx
    obtain ⟨f, hf, h1, _⟩ := hasT x hx
    have := good_neg (g.lits f hf)
    rwa [h1, Int.neg_neg] at this
  have hcons2 : ∀ x, (s.put (-e.lit)).has x = true → ¬ (s.put (-e.lit)).has (-x) = true := by
    intro x hx hnx
    obtain ⟨f, hf, h1, _⟩ := hasT x hx
    obtain ⟨f', hf', h1', _⟩ := hasT (-x) hnx
    rw [Int.neg_neg] at h1'
    exact tr_cons g x ⟨f', hf', h1'⟩ ⟨f, hf, h1⟩
  have litOf_iff : ∀ x, x ≠ 0 → ((∃ u, 1 ≤ u ∧ u < 1 + 12 ∧ gLitOf (s.put (-e.lit)) u = x) ↔ (s.put (-e.lit)).has x = true) := by
    intro x hx0
    constructor
    · rintro ⟨u, h1, h2, h3⟩
      unfold gLitOf at h3
      split at h3
      · rw [← h3]; assumption
      · split at h3
        · rw [← h3]; assumption
        · exact absurd h3.symm hx0
    · intro hx
      have ha := good_abs (hgood2 x hx)
      refine ⟨x.natAbs, by omega, by omega, ?_⟩
      unfold gLitOf
      rcases Int.natAbs_eq x with h | h
      · have hn : ¬ (s.put (-e.lit)).has (-((x.natAbs : Nat) : Int)) = true := by rw [← h]; exact hcons2 x hx
        rw [if_neg hn, ← h, if_pos hx]
      · rw [← h, if_pos hx]
  have ha0 : -e.lit ≠ 0 := by omega
  obtain ⟨r1, r2, r3, r4, r5⟩ := gShrinkA_is w t (s.put (-e.lit)) (-e.lit) ha0 12 1 [] 0
  have hlits : ∀ x, x ∈ (gShrink w t (s.put (-e.lit)) (-e.lit)).1 ↔ (s.put (-e.lit)).has x = true ∧ kept w t (s.put (-e.lit)) (-e.lit) x := by
    intro x
    unfold gShrink
    rw [r1]
    constructor
    · rintro (h | ⟨u, h1, h2, h3, h4, h5⟩)
      · simp at h
      · exact ⟨(litOf_iff x h4).1 ⟨u, h1, h2, h3⟩, h5⟩
    · rintro ⟨h1, h2⟩
      have hx0 := (good_abs (hgood2 x h1)).1
      obtain ⟨u, a, b, d⟩ := (litOf_iff x hx0).2 h1
      exact .inr ⟨u, a, b, d, hx0, h2⟩
  have hnf : NF (gShrink w t (s.put (-e.lit)) (-e.lit)).1 := ⟨fun x hx => hgood2 x ((hlits x).1 hx).1, r5 (by simp) (by simp)⟩
  have hast : -e.lit ∈ (gShrink w t (s.put (-e.lit)) (-e.lit)).1 := (hlits _).2 ⟨(has2 _).2 (.inl rfl), .inl rfl⟩
  have hlevU : ∀ u : Nat, ∀ x, gLitOf (s.put (-e.lit)) u = x → x ≠ 0 → ∀ f ∈ t.es, f.lit = -x → t.levOf u = f.lev := by
    intro u x hu hx0 f hf hfl
    have hux : x.natAbs = u := by
      unfold gLitOf at hu
      split at hu
      · omega
      · split at hu
        · omega
        · exact absurd hu.symm hx0
    have hg := good_abs (g.lits f hf)
    have := (levOf_ent g hf (x := f.lit) rfl).1
    rw [hg.2.2.2.2] at this
    have e1 : f.lit.natAbs = u := by rw [hfl, Int.natAbs_neg, hux]
    rw [e1] at this
    exact this
  refine ⟨rfl, hnf, ⟨hast, ip, e, ce.at_, by simp, ce.lev⟩, ?_, ?_, ?_, ?_⟩
  · intro x hx hne
    obtain ⟨h1, h2⟩ := (hlits x).1 hx
    obtain ⟨f, hf, f1, f2, f3, f4⟩ := hasT x h1
    have hx0 := (good_abs (hgood2 x h1)).1
    obtain ⟨u, a, b, d⟩ := (litOf_iff x hx0).2 h1
    have := r3 u a b (by rw [d]; exact hx0) (by rw [d]; exact hne) (by rw [d]; exact h2.resolve_left hne)
    rw [hlevU u x d hx0 f hf f1] at this
    exact ⟨f, hf, f1, f2, this⟩
  · refine ⟨r2, ?_⟩
    rcases r4 with h | ⟨u, h1, h2, h3, h4, h5, h6⟩
    · show (gShrinkA w t (s.put (-e.lit)) (-e.lit) 12 1 [] 0).2 < t.dep
      rw [h]; omega
    · show (gShrinkA w t (s.put (-e.lit)) (-e.lit) 12 1 [] 0).2 < t.dep
      have hx := (litOf_iff _ h3).1 ⟨u, h1, h2, rfl⟩
      obtain ⟨f, hf, f1, f2, f3, f4⟩ := hasT _ hx
      have := hlevU u _ rfl h3 f hf f1
      have := f4 h4
      omega
  · intro hb
    rcases r4 with h | ⟨u, h1, h2, h3, h4, h5, h6⟩
    · exact absurd h hb
    · have hx := (litOf_iff _ h3).1 ⟨u, h1, h2, rfl⟩
      obtain ⟨f, hf, f1, f2, f3, f4⟩ := hasT _ hx
      refine ⟨_, (hlits _).2 ⟨hx, .inr h5⟩, h4, f, hf, f1, ?_⟩
      rw [← hlevU u _ rfl h3 f hf f1]; exact h6
  ·
    intro cs hcov
    rintro ⟨S, hS⟩
    have inF : ∀ x, x ∈ (gShrink w t (s.put (-e.lit)) (-e.lit)).1 → S (-x) := fun x hx => hS.inc _ (by rw [Int.neg_neg]; exact hx)
    have l0 := lev0_in hpi hcov hS

    have lh : ∀ (i : Nat) (f : Ent), t.es[i]? = some f → (s.put (-e.lit)).has (-f.lit) = true → S f.lit := by
      intro i
      induction i using Nat.strongRecOn with
      | ind i ih =>
        intro f hf hh
        by_cases hk : kept w t (s.put (-e.lit)) (-e.lit) (-f.lit)
        · have := inF _ ((hlits _).2 ⟨hh, hk⟩)
          rwa [Int.neg_neg] at this
        · have hsp : gSpare w t (s.put (-e.lit)) (-f.lit) = true := by
            cases h : gSpare w t (s.put (-e.lit)) (-f.lit) with
            | true => rfl
            | false => exact absurd (.inr h) hk
          have hfm := List.mem_of_getElem? hf
          unfold gSpare at hsp
          have hrs := (levOf_ent g hfm (x := -f.lit) (by rw [Int.natAbs_neg])).2
          rw [hrs] at hsp
          simp only [Bool.and_eq_true] at hsp
          obtain ⟨hlv, hal⟩ := hsp
          rcases hpi.rs i f hf with ⟨h1, _⟩ | ⟨r, h1, h2, h3, h4, h5, h6⟩
          · rw [h1] at hlv; simp [liveB] at hlv
          · have hrn : f.rsn.toNat = r := by rw [h1]; simp
            rw [hrn, List.all_eq_true] at hal
            have gr := hpi.wg.cl r
            refine hS.unitW hcov h3 h4 fun y hy hne => ?_
            have := hal y ((mem_nf gr.good gr.vars y).2 hy)
            rw [Int.neg_neg] at this
            simp only [Bool.or_eq_true, decide_eq_true_eq] at this
            obtain ⟨j, hj, f', hf', hfl'⟩ := h6 y hy hne
            have hab : y.natAbs = f'.lit.natAbs := by rw [hfl', Int.natAbs_neg]
            rcases this with h | h | h
            · exact absurd h hne
            · have := ih j hj f' hf' (by rw [hfl', Int.neg_neg]; exact h)
              rw [hfl'] at this; exact this
            · rw [(levOf_ent g (List.mem_of_getElem? hf') hab).1] at h
              have := l0 j f' hf' (by omega)
              rw [hfl'] at this; exact this

    have tri : ∀ (j : Nat) (f : Ent), t.es[j]? = some f → s.seen f.lit.natAbs = true → (f.lev = t.dep → ip ≤ j → S f.lit) → S f.lit := by
      intro j f hf hsn hdp
      have hfm := List.mem_of_getElem? hf
      have hle := lev_le g hfm
      by_cases h0 : f.lev = 0
      · exact l0 j f hf h0
      · by_cases h1 : f.lev = t.dep
        · refine hdp h1 ?_
          rcases Nat.lt_or_ge j ip with h | h
          · exact absurd h1 (ce.low j f h hf hsn)
          · exact h
        · exact lh j f hf ((has2 _).2 (.inr (ce.hc f hfm hsn (by omega) (by omega))))
    have ld : ∀ (i : Nat) (f : Ent), t.es[i]? = some f → s.seen f.lit.natAbs = true → f.lev = t.dep → ip ≤ i → S f.lit := by
      intro i
      induction i using Nat.strongRecOn with
      | ind i ih =>
        intro f hf hsn hlv hip
        by_cases he : i = ip
        · subst he
          rw [ce.at_] at hf
          cases hf
          have := inF _ hast
          rwa [Int.neg_neg] at this
        · obtain ⟨r, q1, q2, q3⟩ := ce.res i f (by omega) hf hsn hlv
          rcases hpi.rs i f hf with ⟨h1, _⟩ | ⟨r', h1, h2, h3, h4, h5, h6⟩
          · rw [q1] at h1; omega
          · have : r' = r := by rw [q1] at h1; omega
            subst this
            refine hS.unitW hcov h3 h4 fun y hy hne => ?_
            obtain ⟨j, hj, f', hf', hfl'⟩ := h6 y hy hne
            have hab : f'.lit.natAbs = y.natAbs := by rw [hfl', Int.natAbs_neg]
            have := tri j f' hf' (by rw [hab]; exact q3 y hy) (fun h9 h10 => ih j hj f' hf' (by rw [hab]; exact q3 y hy) h9 h10)
            rw [hfl'] at this; exact this
    obtain ⟨cc, hcc1, hcc2⟩ := hcov c hst
    refine hS.not_false hcc1 fun x hx => ?_
    have hxw := (hcc2 x).1 hx
    obtain ⟨j, f, hf, hfl⟩ := tr_pl.1 (hfalse x hxw)
    have hab : f.lit.natAbs = x.natAbs := by rw [hfl, Int.natAbs_neg]
    have := tri j f hf (by rw [hab]; exact ce.conf x hxw) (fun h9 h10 => ld j f hf (by rw [hab]; exact ce.conf x hxw) h9 h10)
    rw [hfl] at this; exact this

theorem analyze_zero {w : Wt} {t : Tr} {c : Nat} (hpi : PI w t t.cur) (hall : ∀ x ∈ (w c).lits, t.value x = -1) (hst : (w c).st ≠ 0) (hd : t.dep = 0) :
    gAnalyze w t c = ⟨10, [], 0, 0⟩ ∧ ∀ cs, Cov w cs → Ref cs fun x => -x ∈ ([] : List Int) := by
  refine ⟨by unfold gAnalyze; rw [if_pos hd], ?_⟩
  rintro cs hcov ⟨S, hS⟩
  obtain ⟨cc, hcc1, hcc2⟩ := hcov c hst
  refine hS.not_false hcc1 fun x hx => ?_
  have hxw := (hcc2 x).1 hx
  have htr := (val_m1 hpi.tg ((hpi.wg.cl c).good x hxw)).1 (hall x hxw)
  obtain ⟨j, f, hf, hfl⟩ := tr_pl.1 htr
  have hle := lev_le hpi.tg (List.mem_of_getElem? hf)
  have := lev0_in hpi hcov hS j f hf (by omega)
  rw [hfl] at this; exact this
end Go.Proofs.Qxb6500974aGreat
