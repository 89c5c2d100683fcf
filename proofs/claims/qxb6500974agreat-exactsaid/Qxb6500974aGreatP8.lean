import Derived.Test.Qxb6500974aGreatP7
set_option linter.all false
set_option linter.unusedSimpArgs false
set_option linter.unusedVariables false
namespace Go.Proofs.Qxb6500974aGreat
open Go.Eng

theorem interval_eq {r : Nat} (h : r ≤ 4) : goInterval (r : Int) = if r < 4 then ((r + 1 : Nat) : Int) else 0 := by
  unfold goInterval
  rw [if_neg (by omega)]
  by_cases h4 : r < 4
  · rw [if_neg (by omega), if_pos h4, wrap_i64 (by omega) (by omega)]; omega
  · rw [if_pos (by omega), if_neg h4]
theorem ahead_le : ∀ {r : Nat}, r ≤ 4 → ahead r ≤ 10 ∧ (r < 4 → ahead r + r ≤ 9)
  | 0, _ => by simp [ahead]
  | 1, _ => by simp [ahead]
  | 2, _ => by simp [ahead]
  | 3, _ => by simp [ahead]
  | 4, _ => by simp [ahead]
  | n + 5, h => by omega
theorem IB.conf_le {Q : List (List Int)} {σ : St} (h : IB Q σ) {n : Nat} (hn : σ.rest = 4 → σ.since ≤ n) (h5 : n ≤ 4095) : σ.conf ≤ 4105 := by
  have h1 := h.rest
  have h2 := ahead_le h1
  have h3 := h.conf
  have h4 := h.since
  by_cases hr : σ.rest < 4
  · have := h4 hr
    have := h2.2 hr
    omega
  · have := hn (by omega)
    omega
theorem InvP.conf_le {Q : List (List Int)} {σ : St} (h : InvP Q σ) : σ.conf ≤ 4105 := h.ib.conf_le h.num (num_le h.pi.tg)
theorem Inv.conf_le {Q : List (List Int)} {σ : St} (h : Inv Q σ) : σ.conf ≤ 4105 := by
  by_cases hr : σ.rest = 4
  · rcases h.num hr with h1 | ⟨ha, h1⟩
    · exact h.ib.conf_le (fun _ => h1) (num_le h.pi.tg)
    · exact h.ib.conf_le (fun _ => h1) (num_le' ha.len)
  · exact h.ib.conf_le (n := 0) (fun h0 => absurd h0 hr) (by omega)

theorem gBumpA_is (inc : Nat) : ∀ (q : List Int) (act : Nat → Int), (∀ x ∈ q, goGoodLit x = true) → (gBumpA inc q act 0 = act 0) ∧ ∀ v, act v ≤ gBumpA inc q act v ∧ gBumpA inc q act v ≤ act v + q.length * inc
  | [], act, _ => by simp [gBumpA]
  | l :: ls, act, hg => by
    simp only [gBumpA]
    have ih := gBumpA_is inc ls (fupd act l.natAbs (act l.natAbs + inc)) (fun x hx => hg x (by simp [hx]))
    have ha := good_abs (hg l (by simp))
    refine ⟨by rw [ih.1, fupd_ne _ _ (by omega)], fun v => ?_⟩
    have := ih.2 v
    have hm : ((ls.length + 1 : Nat) : Int) * (inc : Int) = (ls.length : Int) * inc + inc := by
      rw [Int.natCast_add, Int.add_mul]; simp
    by_cases he : v = l.natAbs
    · subst he
      rw [fupd_at] at this
      simp only [List.length_cons]
      rw [hm]
      omega
    · rw [fupd_ne _ _ he] at this
      simp only [List.length_cons]
      rw [hm]
      omega
theorem gJumpA_is {t : Tr} (g : t.Good) (level : Int) : ∀ (n : Nat) (ph : Nat → Int), n ≤ t.es.length → (∀ v, v < 13 → ph v = 1 ∨ ph v = -1) → ph 0 = -1 → (∀ v, v < 13 → gJumpA t level n ph v = 1 ∨ gJumpA t level n ph v = -1) ∧ gJumpA t level n ph 0 = -1
  | 0, ph, _, h, h0 => ⟨h, h0⟩
  | n + 1, ph, hn, h, h0 => by
    simp only [gJumpA]
    split
    · exact ⟨h, h0⟩
    · have ha := good_abs (at_good g (show n < t.es.length by omega))
      refine gJumpA_is g level n _ (by omega) (fun v hv => ?_) ?_
      · by_cases he : v = (t.at n).natAbs
        · subst he; rw [fupd_at]; split <;> simp
        · rw [fupd_ne _ _ he]; exact h v hv
      · rw [fupd_ne _ _ (by omega)]; exact h0

theorem PI.add {w : Wt} {t : Tr} {id : Nat} {l : List Int} (h : PI w t t.cur) (hid : id < 52) (hst : (w id).st = 0) (hl : NF l) : PI (fupd w id ⟨1, l⟩) t t.cur := by
  refine ⟨h.wg.turn hid ⟨by simp, by simp, hl.1, sorted_vars hl.2, by simp⟩, h.tg, ?_, fun j hj => ?_⟩
  · intro i e he
    rcases h.rs i e he with h1 | ⟨r, h1, h2, h3, h4, h5, h6⟩
    · exact .inl h1
    · have hne : r ≠ id := fun h0 => by subst h0; exact h3 hst
      exact .inr ⟨r, h1, h2, by rw [fupd_ne _ _ hne]; exact h3, by rw [fupd_ne _ _ hne]; exact h4, h5, by rw [fupd_ne _ _ hne]; exact h6⟩
  · by_cases he : j = id
    · subst he; rw [fupd_at] at hj; simp at hj
    · rw [fupd_ne _ _ he] at hj ⊢; exact h.hd j hj
theorem ClC.not_all {c : List Int} {S : Int → Prop} (h : ClC c S) (hc : Cons S) : ¬ ∀ x ∈ c, S (-x) := by
  intro hf
  rcases h with ⟨x, hx, hs⟩ | ⟨x, hx, y, hy, hne, h1, h2⟩
  · exact hc x hs (hf x hx)
  · exact h1 (hf x hx)
theorem liveL_len (w : Wt) : (liveL w).length ≤ 52 := slots_len.1
theorem back_upto {t : Tr} (g : t.Good) {b k : Nat} (hk : k ≤ b) {x : Int} : (t.back b).upto k x ↔ t.upto k x := by
  obtain ⟨rest, h1, h2, h3⟩ := back_split g b
  unfold Tr.upto
  constructor
  · rintro ⟨e, he, h4⟩
    exact ⟨e, by rw [h1]; exact List.mem_append_left _ he, h4⟩
  · rintro ⟨e, he, h4, h5⟩
    rw [h1, List.mem_append] at he
    rcases he with he | he
    · exact ⟨e, he, h4, h5⟩
    · have := h3 e he; omega

structure Mid (Q : List (List Int)) (σ : St) (A : Lrn) (σ5 : St) : Prop where
  pi : PI σ5.w σ5.t σ5.t.cur
  low : ∀ k, k < σ5.t.dep → ∀ id, (σ5.w id).st ≠ 0 → ClC (σ5.w id).lits (σ5.t.upto k)
  asr : Asserting σ5.w σ5.t
  num : σ.t.num + 1 ≤ σ5.t.num + 2 ^ (11 - σ5.t.es.length)
  keep : σ5.conf = σ.conf + 1 ∧ σ5.rest = σ.rest ∧ σ5.since = σ.since
  prob : ∀ id, id < 40 → ((σ5.w id).st ≠ 0 ↔ id < Q.length) ∧ ∀ q, Q[id]? = some q → (σ5.w id).lits.Perm q
  alive : ∀ k, k < 12 → (σ5.alive k = true ↔ (σ5.w (40 + k)).st ≠ 0)
  high : ∀ k, 12 ≤ k → σ5.alive k = false
  count : σ5.count = cntB σ5.alive 12
  ne : ∀ id, 40 ≤ id → (σ5.w id).st ≠ 0 → (σ5.w id).lits ≠ []
  lg : LogI Q σ5.log (liveL σ5.w) (σ.conf + 1)
  llen : σ5.log.length + 14 * σ5.count ≤ 27 * (σ.conf + 1)
  inc : σ5.inc = σ.conf + 2
  act0 : σ5.act 0 = 0
  phase0 : σ5.phase 0 = -1
  act : ∀ v, v < 13 → 0 ≤ σ5.act v ∧ σ5.act v ≤ 60000 * ((σ.conf + 1 : Nat) : Int)
  phase : ∀ v, v < 13 → σ5.phase v = 1 ∨ σ5.phase v = -1
theorem conf_up {Q : List (List Int)} {σ : St} {c : Nat} (h : InvP Q σ) (hst : (σ.w c).st ≠ 0) (hall : ∀ x ∈ (σ.w c).lits, σ.t.value x = -1) (hd : σ.t.dep ≠ 0) :
    CfReady σ c ∧ Mid Q σ (gAnalyze σ.w σ.t c) (gBump (gJoin (gMid σ (gAnalyze σ.w σ.t c)) (gAnalyze σ.w σ.t c).lits) (gAnalyze σ.w σ.t c).lits) ∧ (gAnalyze σ.w σ.t c).err = 0 := by
  have hlow := h.low (σ.t.dep - 1) (by omega) c hst
  have hL : Learn σ.w σ.t (gAnalyze σ.w σ.t c) := analyze_is h.pi hall hst hd (hlow.congr (fun _ => Iff.rfl) (fun x => by
    unfold Tr.upto
    constructor
    · rintro ⟨e, he, h1, h2⟩; exact ⟨e, he, h1, by omega⟩
    · rintro ⟨e, he, h1, h2⟩; exact ⟨e, he, h1, by omega⟩))
  have hcf := h.conf_le
  generalize hA : gAnalyze σ.w σ.t c = A at hL
  obtain ⟨bk, hbk⟩ : ∃ bk : Nat, A.back = bk := ⟨A.back.toNat, by have := hL.back.1; omega⟩
  have hbkn : A.back.toNat = bk := by rw [hbk]; simp
  have hbd : bk < σ.t.dep := by have := hL.back.2; omega
  have g := h.pi.tg
  have hne : A.lits ≠ [] := fun h0 => by have := hL.ast.1; rw [h0] at this; cases this
  have hnum := num_back h.pi hbd

  have lg1 : LogI Q (gNote false A.lits σ.log) (A.lits :: liveL σ.w) (σ.conf + 1) :=
    h.ib.lg.add (liveL_NF h.pi.wg) hL.nf hne (hL.ref _ (liveL_cov h.pi.wg fun _ h => h)) (by have := liveL_len σ.w; omega)
  have hfi : FI Q A.lits (σ.conf + 1) (gJump (gNoted σ A) A.back.toNat) := by
    rw [hbkn]
    exact ⟨h.pi.back (by omega), h.ib.alive, h.ib.high, h.ib.count, h.ib.ne, lg1⟩
  have hlen11 : (gJump (gNoted σ A) A.back.toNat).t.es.length ≤ 11 := by rw [hbkn]; exact hnum.2
  obtain ⟨f1, f2, k0, hk0, hk1⟩ := gForget_is hfi hlen11
  have hkeep := gForget_keep (gJump (gNoted σ A) A.back.toNat)
  have hmid : gMid σ A = gForget (gJump (gNoted σ A) A.back.toNat) := rfl
  rw [← hmid] at f1 f2 hk1 hkeep
  obtain ⟨id, r1, r2, r3, r4⟩ := gRoomA_first (w := (gMid σ A).w) 12 40 ⟨40 + k0, by omega, by omega, hk1⟩
  have hroom : gRoom (gMid σ A).w true = (id : Int) := by unfold gRoom; rw [if_pos rfl]; exact r1
  have hidn : (gRoom (gMid σ A).w true).toNat = id := by rw [hroom]; simp
  have ht4 : (gMid σ A).t = σ.t.back bk := by rw [hkeep.2.2.2.2.2.2.1]; show σ.t.back A.back.toNat = _; rw [hbkn]
  have hlog1 : (gNote false A.lits σ.log).length ≤ σ.log.length + 13 := by
    have := hL.nf.len
    simp [gNote]; omega
  have hinc := h.ib.inc
  refine ⟨⟨hst, hall, fun _ => by rw [hA]; exact hL.nf, fun _ => by rw [hA]; exact ⟨hL.back.1, by have := hL.back.2; omega⟩, fun _ => by rw [hA]; exact ⟨id, hroom, r2, by omega, r4⟩, fun k hk ha => (h.ib.alive k hk).1 ha, by have := h.ib.llen; omega, by have := h.ib.count; have := cntB_le σ.alive 12; omega, by omega, by have := h.ib.rest; omega, by have := h.ib.conf; omega, by omega, fun v hv => by have := h.ib.act v hv; omega⟩, ?_, hL.err⟩

  have w5 : (gBump (gJoin (gMid σ A) A.lits) A.lits).w = fupd (gMid σ A).w id ⟨1, A.lits⟩ := by
    show fupd (gMid σ A).w (gRoom (gMid σ A).w true).toNat ⟨1, A.lits⟩ = _
    rw [hidn]
  have t5 : (gBump (gJoin (gMid σ A) A.lits) A.lits).t = σ.t.back bk := ht4
  have pi4 : PI (gMid σ A).w (σ.t.back bk) (σ.t.back bk).cur := by have := f1.pi; rw [ht4] at this; exact this
  have pi5 := pi4.add (by omega) r4 hL.nf
  have oldw : ∀ j, j ≠ id → ((gMid σ A).w j).st ≠ 0 → (gMid σ A).w j = σ.w j := fun j _ hj => f2.sub j hj
  obtain ⟨ia, ea, hea, hela, hlva⟩ := hL.ast.2
  have heam := List.mem_of_getElem? hea
  have notast : ∀ k, k < σ.t.dep → ¬ σ.t.upto k (-A.ast) := by
    rintro k hk ⟨e, he, h1, h2⟩
    have a1 := entOf_of g.vars he
    have a2 := entOf_of g.vars heam
    rw [h1, ← hela, a2] at a1
    cases a1
    omega
  have ttr : ∀ x, (σ.t.back bk).tr x ↔ σ.t.upto bk x := fun x => back_tr g
  have falseT : ∀ x ∈ A.lits, σ.t.tr (-x) := by
    intro x hx
    by_cases he : x = A.ast
    · rw [he]; exact ⟨ea, heam, hela⟩
    · obtain ⟨e, he1, he2, _⟩ := hL.oth x hx he
      exact ⟨e, he1, he2⟩
  have othF : ∀ x ∈ A.lits, x ≠ A.ast → (σ.t.back bk).tr (-x) := by
    intro x hx he
    obtain ⟨e, he1, he2, _, he4⟩ := hL.oth x hx he
    exact (ttr _).2 ⟨e, he1, he2, by omega⟩
  refine ⟨by rw [w5, t5]; exact pi5, ?_, ?_, by rw [t5]; have := hnum.1; omega, ⟨?_, ?_, ?_⟩, ?_, ?_, ?_, ?_, ?_, ?_, ?_, ?_, ?_, ?_, ?_, ?_⟩
  ·
    rw [w5, t5]
    intro k hk j hj
    have hkb : k < bk := hk
    by_cases he : j = id
    · subst he
      rw [fupd_at]
      dsimp only
      obtain ⟨x, hx, hxa, e, he1, he2, he3⟩ := hL.top (by omega)
      refine .inr ⟨A.ast, hL.ast.1, x, hx, fun h0 => hxa h0.symm, ?_, ?_⟩
      · rw [back_upto g (by omega)]; exact notast k (by omega)
      · rw [back_upto g (by omega)]
        rintro ⟨e', he1', he2', he3'⟩
        have a1 := entOf_of g.vars he1
        have a2 := entOf_of g.vars he1'
        rw [he2', ← he2, a1] at a2
        cases a2
        omega
    · rw [fupd_ne _ _ he] at hj ⊢
      have eo := oldw j he hj
      rw [eo] at hj ⊢
      exact (h.low k (by omega) j hj).congr (fun _ => Iff.rfl) (fun x => (back_upto g (by omega)).symm)
  · rw [w5, t5]
    refine ⟨hnum.2, ?_, id, by rw [fupd_at]; simp, ?_⟩
    · intro j hj hf
      by_cases he : j = id
      · subst he
        rw [fupd_at] at hf
        exact notast bk hbd ((ttr _).1 (hf A.ast hL.ast.1))
      · rw [fupd_ne _ _ he] at hj hf
        have eo := oldw j he hj
        rw [eo] at hj hf
        exact (h.low bk hbd j hj).not_all (fun x hx hnx => tr_cons pi4.tg x ((ttr x).2 hx) ((ttr _).2 hnx)) (fun x hx => (ttr _).1 (hf x hx))
    · rw [fupd_at]
      dsimp only
      rintro (⟨x, hx, hs⟩ | ⟨x, hx, y, hy, hne2, h1, h2⟩)
      · obtain ⟨e, he1, he2, _⟩ := (ttr x).1 hs
        exact tr_cons g x ⟨e, he1, he2⟩ (falseT x hx)
      · by_cases hxa : x = A.ast
        · exact h2 (othF y hy (fun h0 => hne2 (hxa.trans h0.symm)))
        · exact h1 (othF x hx hxa)
  · show (gMid σ A).conf = σ.conf + 1
    rw [hkeep.2.2.2.1]; rfl
  · show (gMid σ A).rest = σ.rest
    rw [hkeep.2.2.2.2.1]; rfl
  · show (gMid σ A).since = σ.since
    rw [hkeep.2.2.2.2.2.1]; rfl
  · rw [w5]
    intro j hj
    rw [fupd_ne _ _ (by omega), f2.w j hj]
    exact h.ib.prob j hj
  · intro k hk
    rw [w5]
    show (fupd (gMid σ A).alive ((gRoom (gMid σ A).w true).toNat - 40) true k = true ↔ _)
    rw [hidn]
    by_cases he : k = id - 40
    · subst he
      rw [fupd_at, show 40 + (id - 40) = id by omega, fupd_at]; simp
    · rw [fupd_ne _ _ he, fupd_ne _ _ (by omega)]; exact f1.alive k hk
  · intro k hk
    show fupd (gMid σ A).alive ((gRoom (gMid σ A).w true).toNat - 40) true k = false
    rw [hidn, fupd_ne _ _ (by omega)]; exact f1.high k hk
  · show (gMid σ A).count + 1 = cntB (fupd (gMid σ A).alive ((gRoom (gMid σ A).w true).toNat - 40) true) 12
    rw [hidn]
    have hal : (gMid σ A).alive (id - 40) = false := by
      rw [Bool.eq_false_iff]
      intro h0
      have := (f1.alive (id - 40) (by omega)).1 h0
      rw [show 40 + (id - 40) = id by omega] at this
      exact this r4
    have := cntB_set (f := (gMid σ A).alive) (g := fupd (gMid σ A).alive (id - 40) true) (j := id - 40) hal (fupd_at _ _ _) (fun i hi => (fupd_ne _ _ hi).symm) 12 (by omega)
    rw [this, f1.count]
  · rw [w5]
    intro j hj hs
    by_cases he : j = id
    · subst he; rw [fupd_at]; exact hne
    · rw [fupd_ne _ _ he] at hs ⊢; exact f1.ne j hj hs
  · rw [w5]
    show LogI Q (gMid σ A).log _ _
    refine f1.lg.perm ?_
    unfold liveL
    rw [liveS_add hL.nf]
    exact (slots_set (liveS_none r4) (by omega)).symm
  · show (gMid σ A).log.length + 14 * ((gMid σ A).count + 1) ≤ 27 * (σ.conf + 1)
    have a := f2.log
    have b : (gJump (gNoted σ A) A.back.toNat).log = gNote false A.lits σ.log := rfl
    have d : (gJump (gNoted σ A) A.back.toNat).count = σ.count := rfl
    rw [b, d] at a
    have := h.ib.llen
    omega
  · show (gMid σ A).inc + 1 = σ.conf + 2
    rw [hkeep.2.2.1]
    show σ.inc + 1 = σ.conf + 2
    omega
  · show gBumpA (gMid σ A).inc A.lits (gMid σ A).act 0 = 0
    rw [(gBumpA_is _ _ _ hL.nf.1).1, hkeep.1]
    exact h.ib.act0
  · show (gMid σ A).phase 0 = -1
    rw [hkeep.2.1]
    exact (gJumpA_is g _ _ _ (Nat.le_refl _) h.ib.phase h.ib.phase0).2
  · intro v hv
    show 0 ≤ gBumpA (gMid σ A).inc A.lits (gMid σ A).act v ∧ gBumpA (gMid σ A).inc A.lits (gMid σ A).act v ≤ _
    have hb := (gBumpA_is (gMid σ A).inc A.lits (gMid σ A).act hL.nf.1).2 v
    rw [hkeep.1, hkeep.2.2.1] at hb ⊢
    have ha := h.ib.act v hv
    have hl12 := hL.nf.len
    have e1 : (gJump (gNoted σ A) A.back.toNat).act = σ.act := rfl
    have e2 : (gJump (gNoted σ A) A.back.toNat).inc = σ.inc := rfl
    rw [e1, e2] at hb ⊢
    have hm : (A.lits.length : Int) * (σ.inc : Int) ≤ 12 * 4106 := by
      have h1 : A.lits.length * σ.inc ≤ 12 * 4106 := Nat.mul_le_mul hl12 (by omega)
      have h2 : ((A.lits.length * σ.inc : Nat) : Int) ≤ ((12 * 4106 : Nat) : Int) := Int.ofNat_le.2 h1
      rw [Int.natCast_mul] at h2
      exact h2
    omega
  · intro v hv
    show (gMid σ A).phase v = 1 ∨ (gMid σ A).phase v = -1
    rw [hkeep.2.1]
    exact (gJumpA_is g _ _ _ (Nat.le_refl _) h.ib.phase h.ib.phase0).1 v hv
theorem restart_Inv {Q : List (List Int)} {σ σ5 : St} {A : Lrn} (h : InvP Q σ) (m : Mid Q σ A σ5) : Inv Q (gRestart σ5) ∧ (gRestart σ5).conf = σ.conf + 1 := by
  obtain ⟨k1, k2, k3⟩ := m.keep
  have hr := h.ib.rest
  have hi := interval_eq (r := σ5.rest) (by omega)
  have hc := h.ib.conf
  unfold gRestart
  by_cases hres : goInterval σ5.rest > 0 ∧ ((σ5.since + 1 : Nat) : Int) ≥ goInterval σ5.rest
  · rw [if_pos hres]
    have h4 : σ5.rest < 4 := by
      rcases Nat.lt_or_ge σ5.rest 4 with h0 | h0
      · exact h0
      · rw [if_neg (by omega)] at hi; omega
    rw [if_pos h4] at hi
    have hs := h.ib.since (by omega)
    have hj := gJumpA_is m.pi.tg ((0 : Nat) : Int) σ5.t.es.length σ5.phase (Nat.le_refl _) m.phase m.phase0
    refine ⟨⟨m.pi.back (k := 0) (by omega), fun k hk => absurd hk (Nat.not_lt_zero k), ⟨m.prob, m.alive, m.high, m.count, m.ne, ?_, ?_, ?_, m.act0, hj.2, ?_, hj.1, ?_, ?_, ?_⟩, fun _ => .inl (Nat.zero_le _)⟩, k1⟩
    · show LogI Q σ5.log (liveL σ5.w) σ5.conf
      rw [k1]; exact m.lg
    · show σ5.log.length + 14 * σ5.count ≤ 27 * σ5.conf
      rw [k1]; exact m.llen
    · show σ5.inc = σ5.conf + 1
      rw [k1, m.inc]
    · intro v hv
      show 0 ≤ σ5.act v ∧ σ5.act v ≤ 60000 * (σ5.conf : Int)
      rw [k1]; exact m.act v hv
    · show σ5.rest + 1 ≤ 4
      omega
    · show σ5.conf = ahead (σ5.rest + 1) + 0
      simp only [ahead]
      rw [k2]
      omega
    · intro _
      exact Nat.zero_le _
  · rw [if_neg hres]
    have hs : σ5.rest < 4 → σ5.since + 1 ≤ σ5.rest := by
      intro h4
      rw [if_pos h4] at hi
      refine Classical.byContradiction fun h0 => hres ?_
      rw [hi]
      omega
    refine ⟨⟨m.pi, m.low, ⟨m.prob, m.alive, m.high, m.count, m.ne, ?_, ?_, ?_, m.act0, m.phase0, ?_, m.phase, ?_, ?_, hs⟩, fun h4 => .inr ⟨m.asr, ?_⟩⟩, k1⟩
    · show LogI Q σ5.log (liveL σ5.w) σ5.conf
      rw [k1]; exact m.lg
    · show σ5.log.length + 14 * σ5.count ≤ 27 * σ5.conf
      rw [k1]; exact m.llen
    · show σ5.inc = σ5.conf + 1
      rw [k1, m.inc]
    · intro v hv
      show 0 ≤ σ5.act v ∧ σ5.act v ≤ 60000 * (σ5.conf : Int)
      rw [k1]; exact m.act v hv
    · show σ5.rest ≤ 4
      omega
    · show σ5.conf = ahead σ5.rest + (σ5.since + 1)
      rw [k1, k2, k3]
      omega
    · show σ5.since + 1 ≤ σ5.t.num + 2 ^ (11 - σ5.t.es.length)
      have h4' : σ.rest = 4 := by rw [← k2]; exact h4
      have := h.num h4'
      have := m.num
      omega
end Go.Proofs.Qxb6500974aGreat
