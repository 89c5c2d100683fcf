import Derived.Test.Qxb6500974aGreatR6
set_option linter.all false
set_option linter.unusedSimpArgs false
set_option linter.unusedVariables false
namespace Go.Proofs.Qxb6500974aGreat
open Go.Eng
variable {W0 : World}

def visB (ls : List Int) (f : Int) : List Int := if ls.getD 0 0 = f then swapL ls 0 1 else ls
def seekA (v : Int → Int) (ls : List Int) : Nat → Nat → Option Nat
  | 0, _ => none
  | n + 1, k => if v (ls.getD k 0) ≠ -1 then some k else seekA v ls n (k + 1)
def gVisit (w : Wt) (t : Tr) (id : Nat) (p : Int) : Wt × Tr × Int :=
  let ls := visB (w id).lits (-p)
  let q := ls.getD 0 0
  if t.value q = 1 ∧ t.plcOf (goVar q) < t.plcOf (goVar p) then (fupd w id ⟨3, ls⟩, t, -1)
  else match seekA t.value ls (ls.length - 2) 2 with
    | some k => (fupd w id ⟨3, swapL ls 1 k⟩, t, -1)
    | none => if t.value q = -1 then (fupd w id ⟨2, ls⟩, t, id)
      else if t.value q = 0 then (fupd w id ⟨2, ls⟩, t.join q id, -1)
      else (fupd w id ⟨2, ls⟩, t, -1)
theorem seekA_range {v : Int → Int} {ls : List Int} : ∀ {n k j : Nat}, seekA v ls n k = some j → k ≤ j ∧ j < k + n
  | 0, k, j, h => by simp [seekA] at h
  | n + 1, k, j, h => by
    simp only [seekA] at h
    split at h
    · cases h; omega
    · have := seekA_range h; omega
theorem visB_perm {ls : List Int} (f : Int) (h : 2 ≤ ls.length) : (visB ls f).Perm ls := by
  unfold visB
  split
  · exact swapL_perm (by omega) (by omega)
  · exact List.Perm.refl _
theorem visB_one {ls : List Int} {f : Int} (h : 2 ≤ ls.length) (hf : ls.getD 0 0 = f ∨ ls.getD 1 0 = f) : (visB ls f).getD 1 0 = f := by
  unfold visB
  split
  · rename_i h0
    rw [swap_getD (by omega) (by omega), if_pos rfl]; exact h0
  · rename_i h0
    rcases hf with hf | hf
    · exact absurd hf h0
    · exact hf
theorem watches_visB {ls : List Int} {f : Int} (h : 2 ≤ ls.length) (st k : Nat) : watches ⟨st, visB ls f⟩ k = watches ⟨st, ls⟩ k := by
  unfold visB
  split
  · unfold watches
    dsimp only
    rw [swap_getD (by omega) (by omega), swap_getD (by omega) (by omega)]
    simp only [if_true, show ¬ (0 : Nat) = 1 by omega, if_false]
    rw [Bool.or_comm]
  · rfl
theorem visit_spec {b tb0 : Nat} {w : Wt} {t : Tr} {id : Nat} {p : Int} {K : Value → Mem → Prop} {m : Mem} (h : WAt m b tb0 w) (ht : TrAt m tb0 t) (hbt : b ≠ tb0) (hid : id < 52) (hst : (w id).st = 3) (hp : goGoodLit p = true)
    (hf : (w id).lits.getD 0 0 = -p ∨ (w id).lits.getD 1 0 = -p)
    (hK : ∀ m', m'.Ok → Kp [b, tb0] m m' → WAt m' b tb0 (gVisit w t id p).1 → TrAt m' tb0 (gVisit w t id p).2.1 → K (.int .i64 (gVisit w t id p).2.2) m') : callOK Tryz.prog W0 138 [ptr b 0, .int .i64 id, .int .i64 p] K m := by
  refine callOK_ok fun ok => call138 ?_
  obtain ⟨g, c, h1, h2, h3⟩ := h
  have htb : tb0 ∉ [b] := by simpa using fun h => hbt h.symm
  have hpa := good_abs hp
  have hwp : IntKind.wrap .i64 (0 - p) = -p := wrap_neg hpa.2.2.2.1
  have h2l : 2 ≤ (w id).lits.length := (g.cl id).two hst
  unfold gVisit at hK
  generalize hL0 : (w id).lits = L0 at hK hf h2l
  have hlen0 : L0.length ≤ 12 := by rw [← hL0]; exact (g.cl id).len
  have hgood0 : ∀ x ∈ L0, goGoodLit x = true := by rw [← hL0]; exact (g.cl id).good
  have hvars0 : L0.Pairwise fun a b => a.natAbs ≠ b.natAbs := by rw [← hL0]; exact (g.cl id).vars
  have hpm := visB_perm (-p) h2l
  have hone := visB_one h2l hf
  have hwat := fun k => watches_visB (f := -p) h2l 3 k
  have hcell0 : ∀ i, i < L0.length → c.lits (id * 12 + i) = L0.getD i 0 := fun i hi => h3.lits id hid i _ (by rw [hL0]; exact getD_some hi 0)
  have hvb : visB L0 (-p) = if L0.getD 0 0 = -p then swapL L0 0 1 else L0 := rfl
  generalize hls : visB L0 (-p) = ls at hK hpm hone hwat hvb
  dsimp only at hK
  have hll : ls.length = L0.length := hpm.length_eq
  have hgood : ∀ x ∈ ls, goGoodLit x = true := fun x hx => hgood0 x (hpm.mem_iff.1 hx)
  have hvars : ls.Pairwise fun a b => a.natAbs ≠ b.natAbs := (hpm.pairwise_iff (fun h => h.symm)).2 hvars0
  have cgood : ∀ (st : Nat) (l : List Int), l.Perm ls → (st = 2 ∨ (st = 3 ∧ 2 ≤ l.length)) → ClGood ⟨st, l⟩ := by
    intro st l hl hs
    refine ⟨by dsimp only; omega, by dsimp only; omega, ?_, ?_, by dsimp only; omega⟩
    · intro x hx; exact hgood x (hl.mem_iff.1 hx)
    · exact (hl.pairwise_iff (fun h => h.symm)).2 hvars

  have mid : ∀ (m2 : Mem) (c2 : WaC), m2.Ok → Kp [b] m m2 → WaB m2 b c2 → (∀ j, j < ls.length → c2.lits (id * 12 + j) = ls.getD j 0) → (∀ j, (j < id * 12 ∨ id * 12 + 12 ≤ j) → c2.lits j = c.lits j) →
      c2.t = tb0 → c2.size = c.size → c2.used = c.used → c2.fresh = c.fresh → c2.weak = c.weak → c2.list = c.list → WAt m2 b tb0 (fupd w id ⟨3, ls⟩) := by
    intro m2 c2 ok2 kp2 b2 e1 e2 e3 e4 e5 e6 e7 e8
    refine ⟨g.turn hid (cgood 3 ls (List.Perm.refl _) (.inr ⟨rfl, by omega⟩)), c2, b2, e3, ?_⟩
    refine WRep.turn g h3 hid ?_ ?_ ?_ ?_ ?_ e2 ?_
    · rw [e5]
      refine ⟨h3.used.1, fun i hi => ?_⟩
      by_cases he : i = id
      · subst he; rw [h3.used.2 _ hi]; simp [hst]
      · simp [he]
    · rw [e6]
      refine ⟨h3.fresh.1, fun i hi => ?_⟩
      by_cases he : i = id
      · subst he; rw [h3.fresh.2 _ hi]; simp [hst]
      · simp [he]
    · rw [e7]
      refine ⟨h3.weak.1, fun i hi => ?_⟩
      by_cases he : i = id
      · subst he; rw [h3.weak.2 _ hi]; simp [hst]
      · simp [he]
    · intro i hi
      rw [e4]
      by_cases he : i = id
      · subst he; rw [h3.size i hi, hL0, if_pos rfl, hll]
      · simp [he]
    · intro j x hx
      have hjl : j < ls.length := by
        rcases Nat.lt_or_ge j ls.length with h | h
        · exact h
        · rw [List.getElem?_eq_none h] at hx; cases hx
      rw [e1 j hjl]
      simp [List.getD, hx]
    · intro k hk
      rw [e8]
      refine ⟨(h3.list k hk).1, fun i hi => ?_⟩
      by_cases he : i = id
      · subst he; rw [if_pos rfl, hwat k, (h3.list k hk).2 _ hi]
        simp only [watches, hst, hL0]
      · rw [if_neg he]
  have hseek : ∀ k, seekA t.value ls (ls.length - 2) 2 = some k → 2 ≤ k ∧ k < ls.length := by
    intro k hk
    have := seekA_range hk
    omega
  have gq : goGoodLit (ls.getD 0 0) = true := hgood _ (mem_getD (by omega) 0)
  have g1 : goGoodLit (ls.getD 1 0) = true := hgood _ (mem_getD (by omega) 0)

  have key := fun (m2 : Mem) (c2 : WaC) (ok2 : m2.Ok) (kp2 : Kp [b] m m2) (b2 : WaB m2 b c2) (e1 : ∀ j, j < ls.length → c2.lits (id * 12 + j) = ls.getD j 0) (e2 : ∀ j, (j < id * 12 ∨ id * 12 + 12 ≤ j) → c2.lits j = c.lits j)
      (e3 : c2.t = tb0) (e4 : c2.size = c.size) (e5 : c2.used = c.used) (e6 : c2.fresh = c.fresh) (e7 : c2.weak = c.weak) (e8 : c2.list = c.list) (hno : ¬ (t.value (ls.getD 0 0) = 1 ∧ t.plcOf (goVar (ls.getD 0 0)) < t.plcOf (goVar p))) =>
    loop138_1 (C := callOK Tryz.prog W0) (w0 := b) (id1 := (id : Int)) (base7 := ((id * 12 : Nat) : Int)) (f8 := -p) (q9 := ls.getD 0 0) (vq10 := t.value (ls.getD 0 0)) (b15 := ((2 ^ id : Nat) : Int)) (n16 := ((ls.length : Nat) : Int)) (K := K) (m := m2) (γ := Nat)
      (fun k t6 k17 m' => m' = m2 ∧ k17 = k ∧ 2 ≤ k ∧ k ≤ ls.length ∧ seekA t.value ls (ls.length - k) k = seekA t.value ls (ls.length - 2) 2) (fun k _ _ => ls.length - k) 2 (t6 := 0) (k17 := 2) ⟨rfl, rfl, by omega, by omega, rfl⟩ (by
      rintro k t6 k17 m' ⟨rfl, rfl, hk2, hkl, hj⟩
      have ht2 := ht.keep kp2 htb
      have wat := mid m' c2 ok2 kp2 b2 e1 e2 e3 e4 e5 e6 e7 e8
      rw [if_neg hno] at hK
      unfold s138_1
      refine ifB_lt (fun hlt => ?_) (fun hlt => ?_)
      · have hkl' : k < ls.length := by omega
        have ef : ls.length - k = (ls.length - (k + 1)) + 1 := by omega
        rw [ef] at hj
        simp only [seekA] at hj
        have hw : IntKind.wrap .i64 (((id * 12 : Nat) : Int) + (k : Int)) = ((id * 12 + k : Nat) : Int) := by rw [wrap_i64 (by omega) (by omega)]; omega
        rw [hw, base_wrap1 hid]
        refine ⟨by omega, by omega, ?_⟩
        simp only [Int.toNat_natCast]
        refine ⟨_, b2.lits (by omega), ?_⟩
        rw [e1 k hkl']
        have gk : goGoodLit (ls.getD k 0) = true := hgood _ (mem_getD hkl' 0)
        refine ⟨_, b2.t, ?_⟩
        rw [e3]
        refine value_spec ht2 ⟨_, rfl, ?_⟩
        refine ifB_ne (fun hv => ?_) (fun hv => ?_)
        · rw [if_pos hv] at hj
          rw [← hj] at hK
          dsimp only at hK
          have rf := code_range (show goGoodLit (-p) = true by rw [← hone]; exact g1)
          have rk := code_range gk
          refine ⟨by omega, by omega, ?_⟩
          simp only [Int.toNat_natCast]
          refine b2.st_lits ok2 (by omega) ?_
          intro m3 ok3 kp3 b3
          refine ⟨by omega, by omega, ?_⟩
          simp only [Int.toNat_natCast]
          refine b3.st_lits ok3 (by omega) ?_
          intro m4 ok4 kp4 b4
          refine ⟨rf.1, rf.2, ?_⟩
          refine ⟨_, b4.list (by omega), ?_⟩
          refine ⟨rf.1, rf.2, ?_⟩
          refine b4.st_list ok4 (by omega) ?_
          intro m5 ok5 kp5 b5
          refine ⟨rk.1, rk.2, ?_⟩
          refine ⟨_, b5.list (by omega), ?_⟩
          refine ⟨rk.1, rk.2, ?_⟩
          refine b5.st_list ok5 (by omega) ?_
          intro m6 ok6 kp6 b6
          rw [e138_1r]
          have kk := (((kp2.trans kp3).trans kp4).trans kp5).trans kp6
          refine hK m6 ok6 (kk.mono (by simp)) ⟨g.turn hid (cgood 3 _ (swapL_perm (by omega) (by omega)) (.inr ⟨rfl, by rw [swapL_len]; omega⟩)), _, b6, e3, ?_⟩ (ht.keep kk htb)
          refine WRep.turn g h3 hid ?_ ?_ ?_ ?_ ?_ ?_ ?_
          · dsimp only; rw [e5]
            refine ⟨h3.used.1, fun i hi => ?_⟩
            by_cases he : i = id
            · subst he; rw [h3.used.2 _ hi]; simp [hst]
            · simp [he]
          · dsimp only; rw [e6]
            refine ⟨h3.fresh.1, fun i hi => ?_⟩
            by_cases he : i = id
            · subst he; rw [h3.fresh.2 _ hi]; simp [hst]
            · simp [he]
          · dsimp only; rw [e7]
            refine ⟨h3.weak.1, fun i hi => ?_⟩
            by_cases he : i = id
            · subst he; rw [h3.weak.2 _ hi]; simp [hst]
            · simp [he]
          · intro i hi
            dsimp only; rw [e4]
            by_cases he : i = id
            · subst he; rw [h3.size i hi, hL0, if_pos rfl, swapL_len, hll]
            · simp [he]
          · intro j x hx
            have hjl : j < ls.length := by
              rcases Nat.lt_or_ge j (swapL ls 1 k).length with h | h
              · rw [swapL_len] at h; exact h
              · rw [List.getElem?_eq_none h] at hx; cases hx
            have hx2 : (swapL ls 1 k).getD j 0 = x := by simp [List.getD, hx]
            rw [swap_getD (by omega) (by omega)] at hx2
            dsimp only
            by_cases hj1 : j = k
            · subst hj1
              rw [fupd_at, ← hone]; rw [if_pos rfl] at hx2; exact hx2
            · rw [if_neg hj1] at hx2
              rw [fupd_ne _ _ (by omega)]
              by_cases hj2 : j = 1
              · subst hj2
                rw [fupd_at]; rw [if_pos rfl] at hx2; exact hx2
              · rw [if_neg hj2] at hx2
                rw [fupd_ne _ _ (by omega), e1 j hjl]; exact hx2
          · intro j hj2
            dsimp only
            rw [fupd_ne _ _ (by omega), fupd_ne _ _ (by omega)]; exact e2 j hj2
          · intro k' hk'
            dsimp only
            rw [e8]
            have cne : goCode (-p) ≠ goCode (ls.getD k 0) := by
              intro h0
              have := code_inj (show goGoodLit (-p) = true by rw [← hone]; exact g1) gk h0
              rw [← hone] at this
              rw [List.pairwise_iff_getElem] at hvars
              have h9 := hvars 1 k (by omega) hkl' (by omega)
              apply h9
              have a1 : ls.getD 1 0 = ls[1] := by simp [List.getD, show 1 < ls.length by omega]
              have a2 : ls.getD k 0 = ls[k] := by simp [List.getD, hkl']
              rw [← a1, ← a2, this]
            have q0ne : goCode (ls.getD 0 0) ≠ goCode (-p) := by
              intro h0
              have := code_inj gq (show goGoodLit (-p) = true by rw [← hone]; exact g1) h0
              rw [← hone] at this
              rw [List.pairwise_iff_getElem] at hvars
              have h9 := hvars 0 1 (by omega) (by omega) (by omega)
              apply h9
              have a1 : ls.getD 1 0 = ls[1] := by simp [List.getD, show 1 < ls.length by omega]
              have a2 : ls.getD 0 0 = ls[0] := by simp [List.getD, show 0 < ls.length by omega]
              rw [← a1, ← a2, this]
            have cl := clr64 (h3.list (goCode (-p)).toNat (by omega)).1 (j := id) (by omega)
            have w1 : ∀ k'', watches ⟨3, swapL ls 1 k⟩ k'' = (decide (goCode (ls.getD 0 0) = k'') || decide (goCode (ls.getD k 0) = k'')) := by
              intro k''
              unfold watches
              dsimp only
              rw [swap_getD (by omega) (by omega), swap_getD (by omega) (by omega), if_neg (by omega), if_neg (by omega), if_neg (by omega), if_pos rfl]
              simp
            have w0 : ∀ k'', k'' < 26 → tb (c.list k'') id = (decide (goCode (ls.getD 0 0) = k'') || decide (goCode (-p) = k'')) := by
              intro k'' hk''
              rw [(h3.list k'' hk'').2 id (by omega)]
              have := hwat k''
              unfold watches at this ⊢
              dsimp only at this
              rw [hst, hL0]
              simp only [decide_true, Bool.true_and] at this ⊢
              rw [← this, hone]
            have nf : goCode (-p) = (((goCode (-p)).toNat : Nat) : Int) := by omega
            have nk : goCode (ls.getD k 0) = (((goCode (ls.getD k 0)).toNat : Nat) : Int) := by omega
            by_cases ha : k' = (goCode (ls.getD k 0)).toNat
            · subst ha
              rw [fupd_at, fupd_ne _ _ (by omega)]
              have st := set64 (h3.list (goCode (ls.getD k 0)).toNat (by omega)).1 (j := id) (by omega)
              refine ⟨st.1, fun i hi => ?_⟩
              rw [st.2 i, w1]
              by_cases he : i = id
              · have hd : decide (goCode (ls.getD k 0) = (((goCode (ls.getD k 0)).toNat : Nat) : Int)) = true := decide_eq_true nk
                rw [if_pos he, if_pos he, hd, Bool.or_true]
              · rw [if_neg he, if_neg he]
            · rw [fupd_ne _ _ ha]
              have nka : ¬ (goCode (ls.getD k 0) = (k' : Int)) := by omega
              by_cases hb : k' = (goCode (-p)).toNat
              · subst hb
                rw [fupd_at]
                refine ⟨cl.1, fun i hi => ?_⟩
                rw [cl.2 i hi, w1]
                by_cases he : i = id
                · have : ¬ (goCode (ls.getD 0 0) = (((goCode (-p)).toNat : Nat) : Int)) := by omega
                  simp only [he, if_true, this, decide_false, Bool.false_or, nka]
                · simp [he]
              · rw [fupd_ne _ _ hb]
                refine ⟨(h3.list k' hk').1, fun i hi => ?_⟩
                by_cases he : i = id
                · have h7 : ¬ (goCode (-p) = (k' : Int)) := by omega
                  rw [he, if_pos rfl, w0 k' hk', w1]
                  simp only [h7, nka, decide_false, Bool.or_false]
                · simp [he]
        · rw [if_neg (by simpa using hv)] at hj
          exact ⟨k + 1, _, _, rfl, ⟨rfl, wrapS k (by omega), by omega, by omega, hj⟩, by omega⟩
      · rw [e138_1x0]
        have : k = ls.length := by omega
        subst this
        rw [Nat.sub_self] at hj
        simp only [seekA] at hj
        rw [← hj] at hK
        dsimp only at hK
        unfold s138_1x0
        refine unlink_raw b2 hid (e1 0 (by omega)) (e1 1 (by omega)) gq g1 (fun k hk => by rw [e8]; exact (h3.list k hk).1) ?_
        intro m3 LL ok3 kp3 b3 hLL
        refine ⟨rfl, ?_⟩
        refine ⟨_, b3.weak, ?_⟩
        dsimp only
        rw [e7]
        refine b3.st_weak ok3 ?_
        intro m4 ok4 kp4 b4
        have kk := (kp2.trans kp3).trans kp4
        have ht4 := ht.keep kk htb
        have sw := set64 h3.weak.1 (j := id) (by omega)
        have wat4 : WAt m4 b tb0 (fupd w id ⟨2, ls⟩) := by
          refine ⟨g.turn hid (cgood 2 ls (List.Perm.refl _) (.inl rfl)), _, b4, e3, ?_⟩
          refine WRep.turn g h3 hid ?_ ?_ ?_ ?_ ?_ e2 ?_
          · dsimp only; rw [e5]
            refine ⟨h3.used.1, fun i hi => ?_⟩
            by_cases he : i = id
            · subst he; rw [h3.used.2 _ hi]; simp [hst]
            · simp [he]
          · dsimp only; rw [e6]
            refine ⟨h3.fresh.1, fun i hi => ?_⟩
            by_cases he : i = id
            · subst he; rw [h3.fresh.2 _ hi]; simp [hst]
            · simp [he]
          · dsimp only
            exact ⟨sw.1, fun i hi => by rw [sw.2 i]; simp⟩
          · intro i hi
            dsimp only; rw [e4]
            by_cases he : i = id
            · subst he; rw [h3.size i hi, hL0, if_pos rfl, hll]
            · simp [he]
          · intro j x hx
            have hjl : j < ls.length := by
              rcases Nat.lt_or_ge j ls.length with h | h
              · exact h
              · rw [List.getElem?_eq_none h] at hx; cases hx
            dsimp only
            rw [e1 j hjl]
            simp [List.getD, hx]
          · intro k hk
            dsimp only
            refine ⟨(hLL k hk).1, fun i hi => ?_⟩
            rw [(hLL k hk).2 i hi, e8]
            by_cases he : i = id
            · rw [if_pos he, if_pos he, (h3.list k hk).2 id (by omega)]
              have := hwat k
              unfold watches at this ⊢
              dsimp only at this ⊢
              rw [hst, hL0]
              simp only [decide_true, Bool.true_and] at this ⊢
              rw [← this]
              cases decide (goCode (ls.getD 0 0) = (k : Int)) <;> cases decide (goCode (ls.getD 1 0) = (k : Int)) <;> simp
            · rw [if_neg he, if_neg he]
        refine ifB_eq (fun hv => ?_) (fun hv => ?_)
        · rw [if_pos hv] at hK
          exact hK m4 ok4 (kk.mono (by simp)) wat4 ht4
        · rw [if_neg hv] at hK
          refine ifB_eq (fun hv0 => ?_) (fun hv0 => ?_)
          · rw [if_pos hv0] at hK
            refine ⟨_, b4.t, ?_⟩
            dsimp only
            rw [e3]
            refine assign_spec ht4 gq (by omega) (value_open gq hv0) ?_
            intro m5 ok5 kp5 ht5
            refine ⟨_, rfl, ?_⟩
            exact hK m5 ok5 ((kk.mono (by simp)).trans (kp5.mono (by simp))) (wat4.keep kp5 (by simpa using hbt)) ht5
          · rw [if_neg hv0] at hK
            exact hK m4 ok4 (kk.mono (by simp)) wat4 ht4)
  unfold s138
  refine ⟨_, h1.visits, ?_⟩
  refine h1.st_visits ok ?_
  intro m1 ok1 kp1 b1
  rw [hwp, base_wrap hid, base_wrap1 hid, goBit_eq (by omega)]
  refine ⟨by omega, by omega, ?_⟩
  simp only [Int.toNat_natCast]
  refine ⟨_, b1.lits (by omega), ?_⟩
  dsimp only
  have e00 := hcell0 0 (by omega)
  rw [Nat.add_zero] at e00
  rw [e00]
  have hkey2 := fun (m2 : Mem) (c2 : WaC) (ok2 : m2.Ok) (kp2 : Kp [b] m m2) (b2 : WaB m2 b c2) (e1 : ∀ j, j < ls.length → c2.lits (id * 12 + j) = ls.getD j 0) (e2 : ∀ j, (j < id * 12 ∨ id * 12 + 12 ≤ j) → c2.lits j = c.lits j)
      (e3 : c2.t = tb0) (e4 : c2.size = c.size) => c2
  refine ifB_eq (fun he => ?_) (fun he => ?_)
  · rw [if_pos he] at hvb
    refine ⟨by omega, by omega, ?_⟩
    simp only [Int.toNat_natCast]
    refine ⟨_, b1.lits (by omega), ?_⟩
    dsimp only
    rw [hcell0 1 (by omega)]
    refine ⟨by omega, by omega, ?_⟩
    simp only [Int.toNat_natCast]
    refine b1.st_lits ok1 (by omega) ?_
    intro m2 ok2 kp2 b2
    refine ⟨by omega, by omega, ?_⟩
    simp only [Int.toNat_natCast]
    refine b2.st_lits ok2 (by omega) ?_
    intro m3 ok3 kp3 b3
    have kk := (kp1.trans kp2).trans kp3
    have ht3 := ht.keep kk htb
    have e1 : ∀ j, j < ls.length → fupd (fupd c.lits (id * 12) (L0.getD 1 0)) (id * 12 + 1) (-p) (id * 12 + j) = ls.getD j 0 := by
      intro j hj
      rw [hvb, swap_getD (by omega) (by omega)]
      by_cases h1 : j = 1
      · subst h1; rw [fupd_at, if_pos rfl, he]
      · rw [if_neg h1, fupd_ne _ _ (by omega)]
        by_cases h2 : j = 0
        · subst h2; rw [Nat.add_zero, fupd_at, if_pos rfl]
        · rw [if_neg h2, fupd_ne _ _ (by omega)]; exact hcell0 j (by omega)
    have e2 : ∀ j, (j < id * 12 ∨ id * 12 + 12 ≤ j) → fupd (fupd c.lits (id * 12) (L0.getD 1 0)) (id * 12 + 1) (-p) j = c.lits j := by
      intro j hj
      rw [fupd_ne _ _ (by omega), fupd_ne _ _ (by omega)]
    refine ⟨by omega, by omega, ?_⟩
    simp only [Int.toNat_natCast]
    refine ⟨_, b3.lits (by omega), ?_⟩
    dsimp only
    have e10 : fupd (fupd c.lits (id * 12) (L0.getD 1 0)) (id * 12 + 1) (-p) (id * 12) = ls.getD 0 0 := e1 0 (by omega)
    rw [e10]
    refine ⟨_, b3.t, ?_⟩
    dsimp only
    rw [h2]
    refine value_spec ht3 ⟨_, rfl, ?_⟩
    have size3 := b3.size hid
    dsimp only at size3
    rw [h3.size id hid, hL0, ← hll] at size3
    refine ifB_eq (fun hv => ?_) (fun hv => ?_)
    · refine ⟨_, b3.t, ?_⟩
      dsimp only
      rw [h2]
      refine place_spec ht3 ⟨_, rfl, ?_⟩
      refine ⟨_, b3.t, ?_⟩
      dsimp only
      rw [h2]
      refine place_spec ht3 ⟨_, rfl, ?_⟩
      refine ifB_lt (fun hlt => ?_) (fun hlt => ?_)
      · rw [if_pos ⟨hv, hlt⟩] at hK
        exact hK m3 ok3 (kk.mono (by simp)) (mid m3 _ ok3 kk b3 e1 e2 h2 rfl rfl rfl rfl rfl) ht3
      · refine ⟨by omega, by omega, ?_⟩
        simp only [Int.toNat_natCast]
        refine ⟨_, size3, ?_⟩
        exact key m3 _ ok3 kk b3 e1 e2 h2 rfl rfl rfl rfl rfl (fun h0 => by omega)
    · refine ⟨by omega, by omega, ?_⟩
      simp only [Int.toNat_natCast]
      refine ⟨_, size3, ?_⟩
      exact key m3 _ ok3 kk b3 e1 e2 h2 rfl rfl rfl rfl rfl (fun h0 => hv h0.1)
  · rw [if_neg he] at hvb
    have e1 : ∀ j, j < ls.length → c.lits (id * 12 + j) = ls.getD j 0 := by
      intro j hj
      rw [hvb]; exact hcell0 j (by omega)
    have ht3 := ht.keep kp1 htb
    refine ⟨by omega, by omega, ?_⟩
    simp only [Int.toNat_natCast]
    refine ⟨_, b1.lits (by omega), ?_⟩
    dsimp only
    have e10 : c.lits (id * 12) = ls.getD 0 0 := e1 0 (by omega)
    rw [e10]
    refine ⟨_, b1.t, ?_⟩
    dsimp only
    rw [h2]
    refine value_spec ht3 ⟨_, rfl, ?_⟩
    have size3 := b1.size hid
    dsimp only at size3
    rw [h3.size id hid, hL0, ← hll] at size3
    refine ifB_eq (fun hv => ?_) (fun hv => ?_)
    · refine ⟨_, b1.t, ?_⟩
      dsimp only
      rw [h2]
      refine place_spec ht3 ⟨_, rfl, ?_⟩
      refine ⟨_, b1.t, ?_⟩
      dsimp only
      rw [h2]
      refine place_spec ht3 ⟨_, rfl, ?_⟩
      refine ifB_lt (fun hlt => ?_) (fun hlt => ?_)
      · rw [if_pos ⟨hv, hlt⟩] at hK
        exact hK m1 ok1 (kp1.mono (by simp)) (mid m1 _ ok1 kp1 b1 e1 (fun _ _ => rfl) h2 rfl rfl rfl rfl rfl) ht3
      · refine ⟨by omega, by omega, ?_⟩
        simp only [Int.toNat_natCast]
        refine ⟨_, size3, ?_⟩
        exact key m1 _ ok1 kp1 b1 e1 (fun _ _ => rfl) h2 rfl rfl rfl rfl rfl (fun h0 => by omega)
    · refine ⟨by omega, by omega, ?_⟩
      simp only [Int.toNat_natCast]
      refine ⟨_, size3, ?_⟩
      exact key m1 _ ok1 kp1 b1 e1 (fun _ _ => rfl) h2 rfl rfl rfl rfl rfl (fun h0 => hv h0.1)
end Go.Proofs.Qxb6500974aGreat
