import Derived.Test.Qxb6500974aGreatP6
set_option linter.all false
set_option linter.unusedSimpArgs false
set_option linter.unusedVariables false
namespace Go.Proofs.Qxb6500974aGreat
open Go.Eng

def ahead : Nat → Nat
  | 0 => 0
  | r + 1 => ahead r + (r + 1)

structure Asserting (w : Wt) (t : Tr) : Prop where
  len : t.es.length ≤ 11
  nf : ∀ id, (w id).st ≠ 0 → ¬ ∀ x ∈ (w id).lits, t.tr (-x)
  un : ∃ id, (w id).st ≠ 0 ∧ ¬ ClC (w id).lits t.tr

def Tr.upto (t : Tr) (k : Nat) (x : Int) : Prop := ∃ e ∈ t.es, e.lit = x ∧ e.lev ≤ k

structure IB (Q : List (List Int)) (σ : St) : Prop where
  prob : ∀ id, id < 40 → ((σ.w id).st ≠ 0 ↔ id < Q.length) ∧ ∀ q, Q[id]? = some q → (σ.w id).lits.Perm q
  alive : ∀ k, k < 12 → (σ.alive k = true ↔ (σ.w (40 + k)).st ≠ 0)
  high : ∀ k, 12 ≤ k → σ.alive k = false
  count : σ.count = cntB σ.alive 12
  ne : ∀ id, 40 ≤ id → (σ.w id).st ≠ 0 → (σ.w id).lits ≠ []
  lg : LogI Q σ.log (liveL σ.w) σ.conf
  llen : σ.log.length + 14 * σ.count ≤ 27 * σ.conf
  inc : σ.inc = σ.conf + 1
  act0 : σ.act 0 = 0
  phase0 : σ.phase 0 = -1
  act : ∀ v, v < 13 → 0 ≤ σ.act v ∧ σ.act v ≤ 60000 * σ.conf
  phase : ∀ v, v < 13 → σ.phase v = 1 ∨ σ.phase v = -1
  rest : σ.rest ≤ 4
  conf : σ.conf = ahead σ.rest + σ.since
  since : σ.rest < 4 → σ.since ≤ σ.rest
structure Inv (Q : List (List Int)) (σ : St) : Prop where
  pi : PI σ.w σ.t σ.t.cur
  low : ∀ k, k < σ.t.dep → ∀ id, (σ.w id).st ≠ 0 → ClC (σ.w id).lits (σ.t.upto k)
  ib : IB Q σ
  num : σ.rest = 4 → σ.since ≤ σ.t.num ∨ (Asserting σ.w σ.t ∧ σ.since ≤ σ.t.num + 2 ^ (11 - σ.t.es.length))

structure InvP (Q : List (List Int)) (σ : St) : Prop where
  pi : PI σ.w σ.t σ.t.cur
  low : ∀ k, k < σ.t.dep → ∀ id, (σ.w id).st ≠ 0 → ClC (σ.w id).lits (σ.t.upto k)
  ib : IB Q σ
  num : σ.rest = 4 → σ.since ≤ σ.t.num
theorem ClC.congr {c c' : List Int} {S S' : Int → Prop} (h : ClC c S) (hc : ∀ x, x ∈ c ↔ x ∈ c') (hs : ∀ x, S x ↔ S' x) : ClC c' S' := by
  rcases h with ⟨x, h1, h2⟩ | ⟨x, h1, y, h2, h3, h4, h5⟩
  · exact .inl ⟨x, (hc x).1 h1, (hs x).1 h2⟩
  · exact .inr ⟨x, (hc x).1 h1, y, (hc y).1 h2, h3, fun h0 => h4 ((hs _).2 h0), fun h0 => h5 ((hs _).2 h0)⟩
theorem upto_up {t t' : Tr} (h : UpX t t') (g' : t'.Good) {w : Wt} (hr : RInv w t') {k : Nat} (hk : k < t.dep) (g : t.Good) {x : Int} : t.upto k x ↔ t'.upto k x := by
  obtain ⟨h1, fs, h2⟩ := h
  unfold Tr.upto
  rw [h2]
  constructor
  · rintro ⟨e, he, h3⟩
    exact ⟨e, by simp [he], h3⟩
  · rintro ⟨e, he, h3, h4⟩
    rw [List.mem_append] at he
    rcases he with he | he
    · exact ⟨e, he, h3, h4⟩
    · exfalso

      have hne : t.es ≠ [] := by
        intro h0
        have hs := g.st
        rw [h0] at hs
        simp only [stair] at hs
        omega
      have hl := stair_last g.st hne
      have hpos : t.es.length - 1 < t.es.length := by
        have : 0 < t.es.length := List.length_pos_iff.2 hne
        omega
      obtain ⟨j, hj, rfl⟩ := List.mem_iff_getElem.1 he
      have e1 : t'.es[t.es.length - 1]? = some t.es[t.es.length - 1] := by rw [h2, List.getElem?_append_left hpos, List.getElem?_eq_getElem hpos]
      have e2 : t'.es[t.es.length + j]? = some fs[j] := by rw [h2, List.getElem?_append_right (by omega), Nat.add_sub_cancel_left, List.getElem?_eq_getElem hj]
      have := stair_mono g'.st (show t.es.length - 1 ≤ t.es.length + j by omega) e1 e2
      rw [List.getElem?_eq_getElem hpos] at hl
      simp at hl
      omega
theorem IB.same {Q : List (List Int)} {σ σ' : St} (h : IB Q σ) (g : WGood σ.w) (hs : Same σ.w σ'.w) (e : σ'.log = σ.log ∧ σ'.act = σ.act ∧ σ'.phase = σ.phase ∧ σ'.inc = σ.inc ∧ σ'.alive = σ.alive ∧ σ'.count = σ.count ∧ σ'.conf = σ.conf ∧ σ'.rest = σ.rest ∧ σ'.since = σ.since) : IB Q σ' := by
  obtain ⟨e1, e2, e3, e4, e5, e6, e7, e8, e9⟩ := e
  have hl : liveL σ'.w = liveL σ.w := by unfold liveL; rw [liveS_same g hs]
  have st : ∀ id, (σ'.w id).st ≠ 0 ↔ (σ.w id).st ≠ 0 := fun id => ⟨fun h0 h1 => h0 ((hs id).1.2 h1), fun h0 h1 => h0 ((hs id).1.1 h1)⟩
  refine ⟨fun id hid => ⟨(st id).trans (h.prob id hid).1, fun q hq => (hs id).2.trans ((h.prob id hid).2 q hq)⟩, fun k hk => by rw [e5, st]; exact h.alive k hk, by rw [e5]; exact h.high, by rw [e6, e5]; exact h.count, fun id hid hst h0 => ?_, by rw [e1, hl, e7]; exact h.lg, by rw [e1, e6, e7]; exact h.llen, by rw [e4, e7]; exact h.inc, by rw [e2]; exact h.act0, by rw [e3]; exact h.phase0, by rw [e2, e7]; exact h.act, by rw [e3]; exact h.phase, by rw [e8]; exact h.rest, by rw [e7, e8, e9]; exact h.conf, by rw [e8, e9]; exact h.since⟩
  have := (hs id).2.length_eq
  rw [h0] at this
  exact h.ne id hid ((st id).1 hst) (List.length_eq_zero_iff.1 this.symm)
theorem prop_InvP {Q : List (List Int)} {σ : St} (h : Inv Q σ) : InvP Q (gStepP σ) := by
  obtain ⟨p1, p2, p3, p4, p5⟩ := gProp_is h.pi
  have st : ∀ id, ((gStepP σ).w id).st ≠ 0 ↔ (σ.w id).st ≠ 0 := fun id => ⟨fun h0 h1 => h0 ((p2 id).1.2 h1), fun h0 h1 => h0 ((p2 id).1.1 h1)⟩
  have hdep : (gStepP σ).t.dep = σ.t.dep := p3.1
  refine ⟨p1, ?_, h.ib.same h.pi.wg p2 ⟨rfl, rfl, rfl, rfl, rfl, rfl, rfl, rfl, rfl⟩, fun h4 => ?_⟩
  · intro k hk id hst
    rw [hdep] at hk
    exact (h.low k hk id ((st id).1 hst)).congr (fun x => (p2 id).2.mem_iff.symm) (fun x => upto_up p3 p1.tg p1.rs hk h.pi.tg)
  · have hup := num_up p3
    rcases h.num h4 with h1 | ⟨ha, h1⟩
    · exact Nat.le_trans h1 hup
    · obtain ⟨_, fs, hfs⟩ := p3
      cases fs with
      | nil =>
        exfalso
        rw [List.append_nil] at hfs
        have htr : ∀ x, (gProp σ.w σ.t).2.1.tr x ↔ σ.t.tr x := fun x => by unfold Tr.tr; rw [hfs]
        by_cases hc : 0 ≤ (gProp σ.w σ.t).2.2
        · obtain ⟨c, hc1, hc2, hc3, hc4⟩ := p4 hc
          refine ha.nf c ((st c).1 hc3) fun x hx => ?_
          have hx' := (p2 c).2.mem_iff.2 hx
          exact (htr _).1 ((val_m1 p1.tg ((p1.wg.cl c).good x hx')).1 (hc4 x hx'))
        · obtain ⟨id, hid1, hid2⟩ := ha.un
          exact hid2 ((p5 (by omega) id ((st id).2 hid1)).congr (fun x => (p2 id).2.mem_iff) htr)
      | cons e fs =>
        have he : (gProp σ.w σ.t).2.1.es[σ.t.es.length]? = some e := by rw [hfs]; simp
        have hrs : e.rsn ≥ 0 := by
          rcases p1.rs _ e he with ⟨a1, a2⟩ | ⟨r, a1, _⟩
          · exfalso
            have hp : prevL (gProp σ.w σ.t).2.1.es σ.t.es.length = σ.t.dep := by
              rw [hfs, prevL_pre (Nat.le_refl _), prevL_len h.pi.tg]
            have := lev_le p1.tg (List.mem_of_getElem? he)
            rw [hp] at a2
            have hd2 : (gProp σ.w σ.t).2.1.dep = σ.t.dep := hdep
            omega
          · omega
        show σ.since ≤ (gProp σ.w σ.t).2.1.num
        unfold Tr.num at h1 ⊢
        rw [hfs, numT_append]
        simp only [numT, Nat.zero_add]
        rw [if_pos hrs]
        omega

theorem gPickA_is (t : Tr) (act : Nat → Int) : ∀ (n v best : Nat), (best = 0 ∨ (1 ≤ best ∧ best < v ∧ t.value best = 0)) → 1 ≤ v →
    (gPickA t act n v best = 0 → best = 0 ∧ ∀ u, v ≤ u → u < v + n → t.value u ≠ 0) ∧ (gPickA t act n v best ≠ 0 → 1 ≤ gPickA t act n v best ∧ gPickA t act n v best < v + n ∧ t.value (gPickA t act n v best : Nat) = 0)
  | 0, v, best, hb, hv => by
    simp only [gPickA]
    refine ⟨fun h => ⟨h, fun u h1 h2 => by omega⟩, fun h => ?_⟩
    rcases hb with hb | hb
    · exact absurd hb h
    · exact ⟨hb.1, by omega, hb.2.2⟩
  | n + 1, v, best, hb, hv => by
    simp only [gPickA]
    by_cases h0 : t.value v = 0
    · rw [if_pos h0]
      have hnew := gPickA_is t act n (v + 1) v (.inr ⟨hv, by omega, h0⟩) (by omega)
      have fin : ∀ b, (b = v) → (gPickA t act n (v + 1) b = 0 → best = 0 ∧ ∀ u, v ≤ u → u < v + (n + 1) → t.value u ≠ 0) ∧ (gPickA t act n (v + 1) b ≠ 0 → 1 ≤ gPickA t act n (v + 1) b ∧ gPickA t act n (v + 1) b < v + (n + 1) ∧ t.value (gPickA t act n (v + 1) b : Nat) = 0) := by
        rintro b rfl
        exact ⟨fun h => by have := (hnew.1 h).1; omega, fun h => by have := hnew.2 h; exact ⟨this.1, by omega, this.2.2⟩⟩
      by_cases hb0 : best = 0
      · rw [if_pos hb0]; exact fin v rfl
      · rw [if_neg hb0]
        by_cases hg : act v > act best
        · rw [if_pos hg]; exact fin v rfl
        · rw [if_neg hg]
          have hold := gPickA_is t act n (v + 1) best (.inr ⟨(hb.resolve_left hb0).1, by have := (hb.resolve_left hb0).2.1; omega, (hb.resolve_left hb0).2.2⟩) (by omega)
          exact ⟨fun h => absurd (hold.1 h).1 hb0, fun h => by have := hold.2 h; exact ⟨this.1, by omega, this.2.2⟩⟩
    · rw [if_neg h0]
      have hold := gPickA_is t act n (v + 1) best (hb.orMap id fun h => ⟨h.1, by omega, h.2.2⟩) (by omega)
      refine ⟨fun h => ⟨(hold.1 h).1, fun u h1 h2 => ?_⟩, fun h => by have := hold.2 h; exact ⟨this.1, by omega, this.2.2⟩⟩
      by_cases he : u = v
      · subst he; exact h0
      · exact (hold.1 h).2 u (by omega) (by omega)
theorem all_set_len {t : Tr} (g : t.Good) (h : ∀ u : Nat, 1 ≤ u → u < 13 → t.value u ≠ 0) : 12 ≤ t.es.length := by
  have := inj_len (f := fun j => ((j + 1 : Nat) : Int)) (fun i j h => by have h' : ((i + 1 : Nat) : Int) = ((j + 1 : Nat) : Int) := h; omega) 12 (t.es.map fun e => (e.lit.natAbs : Int)) (fun j hj => by
    have hgj : goGoodLit ((j + 1 : Nat) : Int) = true := by simp [goGoodLit]; omega
    have hv := h (j + 1) (by omega) (by omega)
    have := val_pm t ((j + 1 : Nat) : Int)
    rcases this with h1 | h1 | h1
    · obtain ⟨e, he, hel⟩ := (val_one g hgj).1 h1
      exact List.mem_map.2 ⟨e, he, by rw [hel]; omega⟩
    · obtain ⟨e, he, hel⟩ := (val_m1 g hgj).1 h1
      exact List.mem_map.2 ⟨e, he, by rw [hel]; omega⟩
    · exact absurd h1 hv)
  simpa using this
theorem pick_ok {Q : List (List Int)} {σ : St} (h : InvP Q σ) (hlen : σ.t.es.length ≠ 12) : goGoodLit (gPick σ) = true ∧ entOf σ.t.es (gPick σ).natAbs = none := by
  have hp := gPickA_is σ.t σ.act 12 1 0 (.inl rfl) (by omega)
  have hne : gPickA σ.t σ.act 12 1 0 ≠ 0 := by
    intro h0
    have := all_set_len h.pi.tg (fun u h1 h2 => (hp.1 h0).2 u h1 (by omega))
    have := h.pi.tg.len
    omega
  obtain ⟨a1, a2, a3⟩ := hp.2 hne
  have hph := h.ib.phase _ (show gPickA σ.t σ.act 12 1 0 < 13 by omega)
  unfold gPick
  generalize gPickA σ.t σ.act 12 1 0 = b at a1 a2 a3 hph ⊢
  have hgb : goGoodLit ((b : Nat) : Int) = true := by simp [goGoodLit]; omega
  have ho := value_open hgb a3
  rcases hph with h1 | h1
  · rw [h1, Int.mul_one]
    exact ⟨hgb, ho⟩
  · rw [h1, show (b : Int) * -1 = -(b : Int) by omega]
    refine ⟨good_neg hgb, ?_⟩
    rw [Int.natAbs_neg]; exact ho
theorem dec_Inv {Q : List (List Int)} {σ : St} (h : InvP Q σ) (hcl : ∀ id, (σ.w id).st ≠ 0 → ClC (σ.w id).lits σ.t.tr) (hlen : σ.t.es.length ≠ 12) : Inv Q (gDec σ) := by
  obtain ⟨hg, ho⟩ := pick_ok h hlen
  have he : (gDec σ).t.es = σ.t.es ++ [⟨gPick σ, σ.t.dep + 1, -1⟩] := rfl
  refine ⟨h.pi.decide hg ho, ?_, h.ib.same h.pi.wg (Same.refl _) ⟨rfl, rfl, rfl, rfl, rfl, rfl, rfl, rfl, rfl⟩, fun h4 => .inl ?_⟩
  · intro k hk id hst
    have hk' : k < σ.t.dep + 1 := hk
    have hup : ∀ x, (gDec σ).t.upto k x ↔ σ.t.upto k x := by
      intro x
      unfold Tr.upto
      rw [he]
      constructor
      · rintro ⟨e, he1, h1, h2⟩
        rw [List.mem_append] at he1
        rcases he1 with he1 | he1
        · exact ⟨e, he1, h1, h2⟩
        · simp at he1; subst he1; dsimp only at h2; omega
      · rintro ⟨e, he1, h1⟩
        exact ⟨e, by simp [he1], h1⟩
    by_cases hkd : k < σ.t.dep
    · exact (h.low k hkd id hst).congr (fun _ => Iff.rfl) (fun x => (hup x).symm)
    · refine (hcl id hst).congr (fun _ => Iff.rfl) (fun x => ?_)
      rw [hup]
      unfold Tr.tr Tr.upto
      constructor
      · rintro ⟨e, he1, h1⟩
        exact ⟨e, he1, h1, by have := lev_le h.pi.tg he1; omega⟩
      · rintro ⟨e, he1, h1, _⟩
        exact ⟨e, he1, h1⟩
  · show σ.since ≤ numT (gDec σ).t.es 0
    rw [he, numT_append]
    have := h.num h4
    unfold Tr.num at this
    omega
end Go.Proofs.Qxb6500974aGreat
