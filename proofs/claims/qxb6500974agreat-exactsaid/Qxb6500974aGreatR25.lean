import Derived.Test.Qxb6500974aGreatR24
set_option linter.all false
set_option linter.unusedSimpArgs false
set_option linter.unusedVariables false
namespace Go.Proofs.Qxb6500974aGreat
open Go.Eng
variable {W0 : World}

theorem TwAt.at_cell {m : Mem} {T : Tw} (h : TwAt m T) : m.cell T.x 0 = some (ptr T.B.p 0) ∧ m.cell T.x 1 = some (ptr T.B.t 0) ∧ m.cell T.x 2 = some (ptr T.B.w 0) ∧ m.cell T.x 4 = some (ptr T.B.s 0) ∧ m.cell T.x 6 = some (ptr T.k 0) := by
  obtain ⟨f, h1, h2, c0, c1, c2, c3, c4, c5, c6⟩ := h.bk
  exact ⟨Mem.cell_of h1 c0, Mem.cell_of h1 c1, Mem.cell_of h1 c2, Mem.cell_of h1 c4, Mem.cell_of h1 c6⟩
theorem gIds_live (w : Wt) : ∀ (n k : Nat), ∀ x ∈ gIds w n k, ∃ j : Nat, x = j ∧ (w j).st ≠ 0
  | 0, k, x, h => by simp [gIds] at h
  | n + 1, k, x, h => by
    simp only [gIds] at h
    split at h
    · rename_i h0
      rcases List.mem_cons.1 h with h1 | h1
      · exact ⟨k, h1, h0⟩
      · exact gIds_live w n (k + 1) x h1
    · exact gIds_live w n (k + 1) x h
theorem gIds_map (w : Wt) : ∀ (n k : Nat), slotsA (liveS w) (k + n) = slotsA (liveS w) k ++ (gIds w n k).map fun id => nf (w id.toNat).lits
  | 0, k => by simp [gIds]
  | n + 1, k => by
    have ih := gIds_map w n (k + 1)
    rw [show k + (n + 1) = k + 1 + n by omega, ih]
    simp only [gIds, slotsA]
    by_cases h : (w k).st ≠ 0
    · rw [if_pos h, liveS_some h]
      simp
    · rw [if_neg h, liveS_none (by simpa using h)]
      simp
theorem live_is (w : Wt) : (gIds w 52 0).map (fun id => nf (w id.toNat).lits) = liveL w := by
  have := gIds_map w 52 0
  rw [Nat.zero_add] at this
  unfold liveL
  rw [this]; rfl

theorem tlive_spec {T : Tw} {K : Value → Mem → Prop} {m : Mem} (h : TwAt m T) (hK : ∀ a n c m', m'.Ok → Kp [] m m' → FzII m' a n (liveL T.σ.w) → K (.slice a n c) m') : callOK Tryz.prog W0 78 [ptr T.x 0] K m := by
  refine callOK_ice fun ok => call78 ?_
  unfold s78
  have hc := h.at_cell
  refine ⟨_, hc.2.2.1, ?_⟩
  refine ids_spec h.sol.sat.w ?_
  intro ia n ic m1 ok1 kp1 fz1
  refine ⟨_, _, _, rfl, ?_⟩
  have hL := gIds_len T.σ.w 52 0
  have hlv := gIds_live T.σ.w 52 0
  rw [← live_is T.σ.w] at hK
  generalize gIds T.σ.w 52 0 = L at hL hlv hK fz1
  have en := fz1.len
  have h1 := h.keep kp1 (fun _ _ => by simp)
  refine loop78_1 (γ := Nat) (fun k oa ol oc i m' => i = k ∧ k ≤ L.length ∧ m'.Ok ∧ Kp [] m1 m' ∧ OwnII m' oa ol oc ((L.take k).map fun id => nf (T.σ.w id.toNat).lits) ∧ InS [] m1 (blkOf oa)) (fun k _ _ _ _ => L.length - k) 0 ⟨rfl, by omega, ok1, Kp.refl _ _, Elt.own.nil _, InS.nil _ _⟩ ?_
  rintro k oa ol oc i m2 ⟨rfl, hk, ok2, kp2, own2, in2⟩
  unfold s78_1
  have h2 := h1.keep kp2 (fun _ _ => by simp)
  have hc2 := h2.at_cell
  have eol := own2.len
  simp only [List.length_map, List.length_take] at eol
  refine ifB_lt (fun hlt => ?_) (fun hlt => ?_)
  · refine ⟨_, hc2.2.2.1, ?_⟩
    refine ((fz1.keep kp2).sl).get (by omega) (by omega) fun _ _ _ => ?_
    rw [Int.toNat_natCast]
    have hkl : k < L.length := by omega
    have hmem : L.getD k 0 ∈ L := by
      have := getD_some hkl 0
      exact List.mem_of_getElem? this
    obtain ⟨j, hj, hst⟩ := hlv _ hmem
    refine clause_spec h2.sol.sat.w ?_ ?_
    · intro h0
      rw [hj] at h0
      simp only [liveB, Int.toNat_natCast] at h0
      simp [hst] at h0
    · intro _ ca cn cc m3 ok3 kp3 fz3
      refine ⟨_, _, _, _, rfl, ?_⟩
      have own3 := own2.keep kp3 (fun _ _ => by simp)
      refine Elt.app1 (E := EL) (x := nf (T.σ.w (L.getD k 0).toNat).lits) ok3 own3 ⟨ca, cn, cc, rfl, fz3⟩ rfl rfl (by omega) (by omega) ?_
      intro a' c' m4 ok4 kp4 own4 in4
      refine ⟨k + 1, a', _, c', _, rfl, ⟨wrapS k (by omega), by omega, ok4, (kp2.trans kp3).step kp4 ok1 ?_, ?_, ?_⟩, by omega⟩
      · intro x hx
        exact in2 x hx
      · have et : (L.take (k + 1)).map (fun id => nf (T.σ.w id.toNat).lits) = (L.take k).map (fun id => nf (T.σ.w id.toNat).lits) ++ [nf (T.σ.w (L.getD k 0).toNat).lits] := by
          rw [List.take_add_one, getD_some hkl 0]
          simp
        rw [et]; exact own4
      · intro x hx
        rcases in4 x hx with h0 | h0
        · exact in2 x h0
        · have := kp2.top; have := kp3.top; exact .inr (by omega)
  · rw [e78_1x0]
    have : k = L.length := by omega
    subst this
    rw [List.take_length] at own2
    unfold s78_1x0
    intro okx
    obtain ⟨m3, g1, g2, g3, g4, g5, g6⟩ := own_freeze ok1 okx kp2 own2 in2
    exact ⟨m3, g1, g2, fun ok4 => hK _ _ _ m3 ok4 (kp1.trans g4) g6⟩

theorem handed_spec {T : Tw} {Q : List (List Int)} {pa ma : Option Addr} {pn pc mn mc : Nat} {e0 e1 : Int} {sat : Bool} {l : List Int} {pf : ByteArray} {x5 x6 : Int} {K : Value → Mem → Prop} {m : Mem} (h : TwAt m T)
    (hp : SlII m pa pn Q) (hQ : Q.length ≤ 40) (hl : ∀ q ∈ Q, NF q) (hprob : ∀ id, id < 40 → ((T.σ.w id).st ≠ 0 ↔ id < Q.length) ∧ ∀ q, Q[id]? = some q → (T.σ.w id).lits.Perm q)
    (hm : SlI m ma mn l) (hml : l.length ≤ 100) (hv : ∀ x ∈ l, T.σ.t.value x = 1)
    (hK : ∀ m', m'.Ok → Kp [] m m' → K (.bool true) m') : callOK Tryz.prog W0 75 [ptr T.x 0, .slice pa pn pc, .agg #[(.int .i64 e0), (.int .i64 e1), (.bool sat), (.slice ma mn mc), (.string pf), (.int .i64 x5), (.int .i64 x6)]] K m := by
  refine callOK_ok fun ok => call75 ?_
  unfold s75
  refine alloc_row ok ?_
  intro b m1 hb hlt ok1 kp1 row1 bn1
  have ep := hp.len
  have em := hm.len
  refine loop75_1 (γ := Nat) (fun k t i m' => i = k ∧ k ≤ Q.length ∧ m'.Ok ∧ Kp [] m1 m') (fun k _ _ => Q.length - k) 0 ⟨rfl, by omega, ok1, Kp.refl _ _⟩ ?_
  rintro k t i m2 ⟨rfl, hk, ok2, kp2⟩
  have h2 := (h.keep kp1 (fun _ _ => by simp)).keep kp2 (fun _ _ => by simp)
  have hc2 := h2.at_cell
  have hp2 := (hp.keep0 kp1).keep0 kp2
  unfold s75_1
  refine ifB_lt (fun hlt2 => ?_) (fun hlt2 => ?_)
  · refine ⟨_, hc2.2.2.1, ?_⟩
    have hkl : k < Q.length := by omega
    have hpr := hprob k (by omega)
    have hst := hpr.1.2 hkl
    have hlive : liveB T.σ.w (k : Int) = true := by simp [liveB, hst]
    refine clause_spec h2.sol.sat.w ?_ ?_
    · intro h0
      rw [hlive] at h0
      cases h0
    · intro _ ca cn cc m3 ok3 kp3 fz3
      refine ⟨_, _, _, _, rfl, ?_⟩
      refine ifB_ne (fun h0 => ?_) (fun _ => ?_)
      · have hF : False := h0 rfl
        cases hF
      refine (hp2.keep0 kp3).getL (by omega) (by omega) fun _ _ _ ai ni ci hai => ?_
      rw [Int.toNat_natCast] at hai
      have hq := getD_some hkl []
      have hNF := hl _ (List.mem_of_getElem? hq)
      have enf : nf (T.σ.w k).lits = Q.getD k [] := nf_of_perm hNF (hpr.2 _ hq)
      rw [Int.toNat_natCast, enf] at fz3
      have hlen : (Q.getD k []).length ≤ 12 := by rw [← enf]; exact nfA_len_le _ 12 1
      refine sameInts_spec fz3.sl hai.sl (by omega) ?_
      refine ⟨_, rfl, ?_⟩
      rw [decide_eq_true rfl]
      refine ⟨k + 1, t, _, rfl, ⟨wrapS k (by omega), by omega, ok3, kp2.trans kp3⟩, by omega⟩
  · rw [e75_1x0]
    unfold s75_1x0
    have hkq : k = Q.length := by omega
    refine loop75_2 (γ := Nat) (fun k t i m' => i = k ∧ Q.length ≤ k ∧ k ≤ 40 ∧ m'.Ok ∧ Kp [] m1 m') (fun k _ _ => 40 - k) Q.length ⟨by omega, by omega, hQ, ok2, kp2⟩ ?_
    rintro k t i m3 ⟨rfl, hk1, hk2, ok3, kp3⟩
    have h3 := (h.keep kp1 (fun _ _ => by simp)).keep kp3 (fun _ _ => by simp)
    have hc3 := h3.at_cell
    unfold s75_2
    refine ifB_lt (fun hlt3 => ?_) (fun hlt3 => ?_)
    · refine ⟨_, hc3.2.2.1, ?_⟩
      have hpr := hprob k (by omega)
      have hst : (T.σ.w k).st = 0 := by
        rcases Nat.eq_zero_or_pos (T.σ.w k).st with h0 | h0
        · exact h0
        · have := hpr.1.1 (by omega); omega
      have hlive : liveB T.σ.w (k : Int) = false := by simp [liveB, hst]
      refine clause_spec h3.sol.sat.w ?_ ?_
      · intro _
        refine ⟨_, _, _, _, rfl, ?_⟩
        refine ifB_ne (fun h0 => ?_) (fun _ => ?_)
        · have hF : False := h0 rfl
          cases hF
        refine ⟨k + 1, t, _, rfl, ⟨wrapS k (by omega), by omega, by omega, ok3, kp3⟩, by omega⟩
      · intro h0
        rw [hlive] at h0
        cases h0
    · rw [e75_2x2]
      unfold s75_2x2
      refine loop75_3 (γ := Nat) (fun k t i m' => i = k ∧ k ≤ l.length ∧ m' = m3) (fun k _ _ => l.length - k) 0 ⟨rfl, by omega, rfl⟩ ?_
      rintro k t i m' ⟨rfl, hk3, rfl⟩
      obtain ⟨r0, r1, r2, r3, _⟩ := kp3.row (by simp) row1
      have hm3 := (hm.keep0 kp1).keep0 kp3
      unfold s75_3
      refine ⟨_, _, _, r3, ?_⟩
      refine ifB_lt (fun hlt4 => ?_) (fun hlt4 => ?_)
      · refine ⟨_, hc3.2.1, ?_⟩
        refine ⟨_, _, _, r3, ?_⟩
        refine hm3.get (by omega) (by omega) fun _ _ _ => ?_
        rw [Int.toNat_natCast]
        have hkl : k < l.length := by omega
        have hval := hv _ (List.mem_of_getElem? (getD_some hkl 0))
        refine value_spec h3.sol.sat.t ?_
        refine ⟨_, rfl, ?_⟩
        rw [hval]
        refine ifB_ne (fun h0 => ?_) (fun _ => ?_)
        · have hF : False := h0 rfl
          cases hF
        exact ⟨k + 1, t, _, rfl, ⟨wrapS k (by omega), by omega, rfl⟩, by omega⟩
      · rw [e75_3x4]
        exact hK _ ok3 (kp1.trans kp3)

theorem st_at {m : Mem} {b o : Nat} {v : Value} {f : Blk} {K : Mem → Prop} (ok : m.Ok) (hb : m.blk b = some f) (hw : f.wr = true) (hc : (f.cell o).isSome = true)
    (hK : ∀ m', m'.Ok → Kp [b] m m' → m'.blk b = some (f.upd o v) → K m') : st m b o v K :=
  ⟨f, hb, hw, hc, hK _ (ok.setB hb) (Kp.setB hb hw _ (by simp)) (Mem.setB_at _ _ _)⟩
structure ZAt (m : Mem) (z s p' p k : Nat) : Prop where
  c1 : m.cell z 1 = some (ptr s 0)
  c2 : m.cell z 2 = some (ptr p 0)
  c3 : m.cell z 3 = some (ptr k 0)
  hs : HoldsP m s p'
  hk : HoldsP m k p
  pm' : PM m p'
  pm : PM m p
  dz : z ≠ p' ∧ z ≠ p
  ds : s ≠ p
  dk : k ≠ p'
  dp : p' ≠ p
theorem ZAt.keep {X : List Nat} {m m' : Mem} {z s p' p k : Nat} (h : ZAt m z s p' p k) (hk : Kp X m m') (hx : z ∉ X ∧ s ∉ X ∧ p' ∉ X ∧ p ∉ X ∧ k ∉ X) : ZAt m' z s p' p k :=
  ⟨hk.cell hx.1 h.c1, hk.cell hx.1 h.c2, hk.cell hx.1 h.c3, h.hs.keep hk hx.2.1, h.hk.keep hk hx.2.2.2.2, h.pm'.keep hk hx.2.2.1, h.pm.keep hk hx.2.2.2.1, h.dz, h.ds, h.dk, h.dp⟩
theorem newPM_spec {K : Value → Mem → Prop} {m : Mem} (hK : ∀ p m', m.top ≤ p → m'.Ok → Kp [] m m' → PM m' p → K (ptr p 0) m') : callOK Tryz.prog W0 86 [] K m := by
  refine callOK_ok fun ok => call86 ?_
  unfold s86
  intro b hb
  exact hK b _ hb (ok.new hb _) (Kp.new ok hb _) ⟨_, 0, 0, Mem.new_at _ _ _, rfl, rfl, rfl⟩
theorem newSM_spec {K : Value → Mem → Prop} {m : Mem} (hK : ∀ s p m', m.top ≤ s → m.top ≤ p → m'.Ok → Kp [] m m' → PM m' p → HoldsP m' s p → K (ptr s 0) m') : callOK Tryz.prog W0 85 [] K m := by
  refine callOK_ok fun ok => call85 ?_
  unfold s85
  refine newPM_spec ?_
  intro p m1 hp ok1 kp1 pm1
  refine ⟨_, rfl, ?_⟩
  intro b hb
  have hpl := pm1.lt ok1
  have hk2 := Kp.new (S := []) ok1 hb (Blk.ofList [(ptr p 0)])
  exact hK b p _ (by have := kp1.top; omega) hp (ok1.new hb _) (kp1.trans hk2) (pm1.keep hk2 (by simp)) ⟨Mem.cell_of (Mem.new_at _ _ _) rfl, by omega⟩
theorem newCM_spec {p : Nat} {K : Value → Mem → Prop} {m : Mem} (hp : p < m.top) (hK : ∀ k m', m.top ≤ k → m'.Ok → Kp [] m m' → HoldsP m' k p → K (ptr k 0) m') : callOK Tryz.prog W0 87 [ptr p 0] K m := by
  refine callOK_ok fun ok => call87 ?_
  unfold s87
  intro b hb
  exact hK b _ hb (ok.new hb _) (Kp.new ok hb _) ⟨Mem.cell_of (Mem.new_at _ _ _) rfl, by omega⟩
theorem newWorld_spec {K : Value → Mem → Prop} {m : Mem} (hK : ∀ z s p' p k m', m.top ≤ z → m.top ≤ s → m.top ≤ p' → m.top ≤ p → m.top ≤ k → m'.Ok → Kp [] m m' → ZAt m' z s p' p k → K (ptr z 0) m') : callOK Tryz.prog W0 44 [.bool true] K m := by
  refine callOK_ok fun ok => call44 ?_
  unfold s44
  intro z hz
  have hk1 := Kp.new (S := []) ok hz (Blk.ofList [(.pointer none), (.pointer none), (.pointer none), (.pointer none), (.string (ByteArray.mk #[])), (.string (ByteArray.mk #[])), (.string (ByteArray.mk #[])), (.string (ByteArray.mk #[])), (.slice none 0 0), (.bool true)])
  have ok1 := ok.new hz (Blk.ofList [(.pointer none), (.pointer none), (.pointer none), (.pointer none), (.string (ByteArray.mk #[])), (.string (ByteArray.mk #[])), (.string (ByteArray.mk #[])), (.string (ByteArray.mk #[])), (.slice none 0 0), (.bool true)])
  have hb1 := Mem.new_at m z (Blk.ofList [(.pointer none), (.pointer none), (.pointer none), (.pointer none), (.string (ByteArray.mk #[])), (.string (ByteArray.mk #[])), (.string (ByteArray.mk #[])), (.string (ByteArray.mk #[])), (.slice none 0 0), (.bool true)])
  generalize m.new z (Blk.ofList [(.pointer none), (.pointer none), (.pointer none), (.pointer none), (.string (ByteArray.mk #[])), (.string (ByteArray.mk #[])), (.string (ByteArray.mk #[])), (.string (ByteArray.mk #[])), (.slice none 0 0), (.bool true)]) = m1 at hk1 ok1 hb1
  have zlt := ok1 _ _ hb1
  have zS : ∀ {X m'}, Kp [z] X m' → True := fun _ => trivial
  refine newTw_spec ?_
  intro T m2 ok2 kp2 _ _
  refine ⟨_, rfl, ?_⟩
  have hb2 := kp2.keep z _ (by simp) hb1
  refine st_at ok2 hb2 rfl rfl ?_
  intro m3 ok3 kp3 hb3
  have t2 := kp2.top
  have t3 := kp3.top
  have kk3 : Kp [] m m3 := (hk1.trans kp2).step kp3 ok (fun b' hb' => .inr (by simp at hb'; omega))
  refine newSM_spec ?_
  intro s p' m4 hs hp' ok4 kp4 pm4 hsp4
  refine ⟨_, rfl, ?_⟩
  have hb4 := kp4.keep z _ (by simp) hb3
  refine st_at ok4 hb4 rfl rfl ?_
  intro m5 ok5 kp5 hb5
  have t4 := kp4.top
  have t5 := kp5.top
  have kk5 : Kp [] m m5 := (kk3.trans kp4).step kp5 ok (fun b' hb' => .inr (by simp at hb'; omega))
  have pm5 := pm4.keep kp5 (by simp; omega)
  have hsp5 := hsp4.keep kp5 (by simp; omega)
  have sl := hsp5.lt ok5
  have pl' := pm5.lt ok5
  refine newPM_spec ?_
  intro p m6 hp ok6 kp6 pm6
  refine ⟨_, rfl, ?_⟩
  have hb6 := kp6.keep z _ (by simp) hb5
  refine st_at ok6 hb6 rfl rfl ?_
  intro m7 ok7 kp7 hb7
  have t6 := kp6.top
  have t7 := kp7.top
  have kk7 : Kp [] m m7 := (kk5.trans kp6).step kp7 ok (fun b' hb' => .inr (by simp at hb'; omega))
  have pm7 := pm6.keep kp7 (by simp; omega)
  have pl := pm7.lt ok7
  have hsp7 := (hsp5.keep kp6 (by simp)).keep kp7 (by simp; omega)
  have pm7' := (pm5.keep kp6 (by simp)).keep kp7 (by simp; omega)
  refine ⟨_, Mem.cell_of hb7 rfl, ?_⟩
  refine newCM_spec (p := p) pl ?_
  intro k m8 hk ok8 kp8 hkp8
  refine ⟨_, rfl, ?_⟩
  have hb8 := kp8.keep z _ (by simp) hb7
  refine st_at ok8 hb8 rfl rfl ?_
  intro m9 ok9 kp9 hb9
  have t8 := kp8.top
  have kk9 : Kp [] m m9 := (kk7.trans kp8).step kp9 ok (fun b' hb' => .inr (by simp at hb'; omega))
  exact hK z s p' p k m9 hz (by omega) (by omega) (by omega) (by omega) ok9 kk9 ⟨Mem.cell_of hb9 rfl, Mem.cell_of hb9 rfl, Mem.cell_of hb9 rfl, (hsp7.keep kp8 (by simp)).keep kp9 (by simp; omega), hkp8.keep kp9 (by simp; omega), (pm7'.keep kp8 (by simp)).keep kp9 (by simp; omega), (pm7.keep kp8 (by simp)).keep kp9 (by simp; omega), ⟨by omega, by omega⟩, by omega, by omega, by omega⟩

theorem mcheck_table {tp tq : List UInt8} (h : (gMCheck tp tq).1 = 0) : gTable (gProblem tp).1 4096 0 = -1 := by
  obtain ⟨Rp, hRp, hnp⟩ := parse_rows tp
  obtain ⟨Rq, hRq, hnq⟩ := parse_rows tq
  have hp := problem_is tp hRp hnp
  unfold gMCheck at h
  by_cases h1 : (gProblem tp).2.1 ≠ 0
  · rw [if_pos h1] at h
    exact (h1 h).elim
  rw [if_neg h1] at h
  by_cases h2 : (gParse tq).1 ≠ 0
  · rw [if_pos h2] at h
    exact (h2 h).elim
  rw [if_neg h2, hRq, gRows_flat Rq hnq] at h
  refine accepted_table (rows := Rq) ?_ hnq h
  intro q hq
  rw [hp] at hq
  split at hq
  · simp at hq
  · split at hq
    · simp at hq
    · simp only [List.mem_map] at hq
      obtain ⟨r, hr, rfl⟩ := hq
      exact hnp r hr
theorem stl3t {m : Mem} {b : Nat} {x0 x1 x2 : Int} {u : Bool} {K : Value → Mem → Prop} (ok : m.Ok) (h : BlkN m b 3)
    (hK : ∀ m', m'.Ok → Kp [b] m m' → K (.tuple #[.agg #[(.int .i64 x0), (.int .i64 x1), (.int .i64 x2)], .bool u]) m') :
    stL m b 0 [(.int .i64 x0), (.int .i64 x1), (.int .i64 x2)] fun m1 =>
      ldInt .i64 m1 b 0 fun y0 => ldInt .i64 m1 b 1 fun y1 => ldInt .i64 m1 b 2 fun y2 => K (.tuple #[.agg #[(.int .i64 y0), (.int .i64 y1), (.int .i64 y2)], .bool u]) m1 := by
  refine stL_put ok h (by simp) (by intro v hv; simp at hv; rcases hv with rfl | rfl | rfl <;> rfl) (by simp) ?_
  intro m' ok' kp' row' _
  obtain ⟨r0, r1, r2, _⟩ := row'
  exact ⟨_, r0, _, r1, _, r2, hK m' ok' kp'⟩
theorem one3 {x0 x1 x2 : Int} : ∀ v ∈ [(Value.int .i64 x0), (.int .i64 x1), (.int .i64 x2)], oneC v = true := by
  intro v hv; simp at hv; rcases hv with rfl | rfl | rfl <;> rfl
theorem sameCheck_spec {T : Tw} {z s p' p k : Nat} {tp tq : ByteArray} {K : Value → Mem → Prop} {m : Mem} (h : TwAt m T) (hz : ZAt m z s p' p k) (hd : z ∉ T.foot ∧ s ∉ T.foot ∧ p' ∉ T.foot ∧ p ∉ T.foot ∧ k ∉ T.foot) (hlz : z < m.top ∧ s < m.top ∧ k < m.top)
    (hK : ∀ (T' : Tw) m', m'.Ok → Kp (p :: T.foot) m m' → T.Next T' m → TwAt m' T' → T'.σ = T.σ → ZAt m' z s p' p k →
      K (.tuple #[.agg #[(.int .i64 (gMCheck (bts tp) (bts tq)).1), (.int .i64 (gMCheck (bts tp) (bts tq)).2.1), (.int .i64 (gMCheck (bts tp) (bts tq)).2.2)], .bool true]) m') : callOK Tryz.prog W0 45 [ptr z 0, ptr T.x 0, .string tp, .string tq] K m := by
  refine callOK_ok fun ok => call45 ?_
  have hlt := h.lt ok
  have ppl := hz.pm.lt ok
  have ppl' := hz.pm'.lt ok
  have htab := @mcheck_table (bts tp) (bts tq)
  generalize hr : gMCheck (bts tp) (bts tq) = r at hK htab
  unfold s45
  rw [zero41]
  refine alloc_row ok ?_
  intro b1 m1 hb1 hlt1 ok1 kp1 _ bn1
  have h1 := h.keep kp1 (fun _ _ => by simp)
  have hz1 := hz.keep kp1 (by simp)
  have hc1 := h1.at_cell
  refine ⟨_, hc1.2.2.2.2, ?_⟩
  refine tcheck_spec h1 ?_
  rw [hr]
  intro T2 m2 ok2 kp2 nx2 at2 es2
  refine ⟨_, _, _, rfl, ?_⟩
  have hz2 := hz1.keep kp2 hd
  have nb1 : b1 ∉ T.foot := fun h0 => by have := hlt b1 h0; omega
  have bn2 := bn1.keep kp2 nb1
  have t1 := kp1.top
  have t2 := kp2.top
  refine alloc_put ok2 (by simp) one3 (by simp) ?_
  intro b3 m3 hb3 hlt3 ok3 kp3 row3 bn3
  have hz3 := hz2.keep kp3 (by simp)
  have t3 := kp3.top
  refine ⟨_, hz3.c3, ?_⟩
  refine mcheck_spec hz3.pm hz3.hk hr ?_
  intro m4 ok4 kp4 pm4
  refine ⟨_, _, _, rfl, ?_⟩
  have t4 := kp4.top
  have hpb : p < m.top := ppl
  have nz4 : ZAt m4 z s p' p k := ⟨kp4.cell (by simp [hz.dz.2]) hz3.c1, kp4.cell (by simp [hz.dz.2]) hz3.c2, kp4.cell (by simp [hz.dz.2]) hz3.c3, hz3.hs.keep kp4 (by simp [hz.ds]), hz3.hk.keep kp4 (by have := hz.hk.2; simp [this]), hz3.pm'.keep kp4 (by simp [hz.dp]), pm4, hz.dz, hz.ds, hz.dk, hz.dp⟩
  have row4 := kp4.row (b := b3) (by simp; omega) row3
  have bn4 : BlkN m4 b1 3 := (bn2.keep kp3 (by simp)).keep kp4 (by simp; omega)
  refine alloc_put ok4 (by simp) one3 (by simp) ?_
  intro b5 m5 hb5 hlt5 ok5 kp5 row5 bn5
  have t5 := kp5.top
  have hz5 := nz4.keep kp5 (by simp)
  have row35 := kp5.row (b := b3) (by simp) row4
  have bn15 := bn4.keep kp5 (by simp)
  have at2lt := at2.lt ok2
  have fin : ∀ x ∈ T2.foot, x ≠ b1 ∧ x ≠ b3 ∧ x ≠ p := by
    intro x hx
    have := at2lt x hx
    rcases nx2.ins x hx with h0 | h0
    · have h9 := hlt x h0
      exact ⟨by omega, by omega, fun h8 => hd.2.2.2.1 (h8 ▸ h0)⟩
    · exact ⟨by omega, by omega, by omega⟩
  have at5 : TwAt m5 T2 := ((at2.keep kp3 (fun _ _ => by simp)).keep kp4 (fun x hx => by simp; exact (fin x hx).2.2)).keep kp5 (fun _ _ => by simp)
  have kk5 : Kp (p :: T.foot) m m5 := ((((kp1.of_nil).trans (kp2.mono fun x hx => by simp [hx])).trans kp3.of_nil).trans (kp4.mono fun x hx => by simp at hx; simp [hx])).trans kp5.of_nil
  have nx : T.Next T2 m := ⟨nx2.x, nx2.B, nx2.q, nx2.k, fun x hx => (nx2.ins x hx).orMap id (fun h0 => by omega)⟩
  have key : ∀ m6, m6.Ok → Kp [p] m5 m6 → ZAt m6 z s p' p k → ∀ m7, m7.Ok → Kp [b1] m6 m7 → K (.tuple #[.agg #[(.int .i64 r.1), (.int .i64 r.2.1), (.int .i64 r.2.2)], .bool true]) m7 := by
    intro m6 ok6 kp6 hz6 m7 ok7 kp7
    have kk6 : Kp (p :: T.foot) m m6 := kk5.trans (kp6.mono fun x hx => by simp at hx; simp [hx])
    refine hK T2 m7 ok7 (kk6.step kp7 ok (fun b' hb' => .inr (by simp at hb'; omega))) nx ((at5.keep kp6 (fun x hx => by simp; exact (fin x hx).2.2)).keep kp7 (fun x hx => by simp; exact (fin x hx).1)) es2 (hz6.keep kp7 ?_)
    have hh := hlz
    simp only [List.mem_singleton]
    refine ⟨by omega, by omega, by omega, by omega, by omega⟩
  obtain ⟨a0, a1, a2, _⟩ := row35
  obtain ⟨q0, q1, q2, _⟩ := row5
  refine ⟨_, a0, _, q0, ?_⟩
  refine ifB_ne (fun h0 => ?_) (fun _ => ?_)
  · have hF : False := h0 rfl
    cases hF
  refine ⟨_, a1, _, q1, ?_⟩
  refine ifB_ne (fun h0 => ?_) (fun _ => ?_)
  · have hF : False := h0 rfl
    cases hF
  refine ⟨_, a2, _, q2, ?_⟩
  refine ifB_ne (fun h0 => ?_) (fun _ => ?_)
  · have hF : False := h0 rfl
    cases hF
  refine ⟨_, a0, ?_⟩
  refine ifB_eq (fun h0 => ?_) (fun h0 => ?_)
  · refine ⟨_, hz5.c2, ?_⟩
    refine problem_fz hz5.pm rfl ?_
    intro qa qn qc m6 ok6 kp6 pm6 fz6
    refine ⟨_, _, _, _, _, rfl, ?_⟩
    have sb := gProblem_smallB (bts tp)
    refine table_spec fz6.sl sb.1 (htab h0) ?_
    refine ⟨_, rfl, ?_⟩
    refine ifB_ne (fun h0 => ?_) (fun _ => ?_)
    · have hF : False := h0 rfl
      cases hF
    have nz6 : ZAt m6 z s p' p k := ⟨kp6.cell (by simp [hz.dz.2]) hz5.c1, kp6.cell (by simp [hz.dz.2]) hz5.c2, kp6.cell (by simp [hz.dz.2]) hz5.c3, hz5.hs.keep kp6 (by simp [hz.ds]), hz5.hk.keep kp6 (by have := hz.hk.2; simp [this]), hz5.pm'.keep kp6 (by simp [hz.dp]), pm6, hz.dz, hz.ds, hz.dk, hz.dp⟩
    refine ⟨_, kp6.cell (by simp; omega) a0, _, kp6.cell (by simp; omega) a1, _, kp6.cell (by simp; omega) a2, ?_⟩
    refine stl3t ok6 (bn15.keep kp6 (by simp; omega)) ?_
    intro m7 ok7 kp7
    exact key m6 ok6 kp6 nz6 m7 ok7 kp7
  · refine ⟨_, a0, _, a1, _, a2, ?_⟩
    refine stl3t ok5 bn15 ?_
    intro m7 ok7 kp7
    exact key m5 ok5 (Kp.refl _ _) hz5 m7 ok7 kp7

theorem xcheck_spec {T : Tw} {tp tq : ByteArray} {e0 e1 : Int} {sat : Bool} {ma : Option Addr} {mn mc : Nat} {pf : ByteArray} {x5 x6 : Int} {v : Int × Int × Int} {K : Value → Mem → Prop} {m : Mem} (h : TwAt m T) (hv : v = gMCheck (bts tp) (bts tq))
    (hK : ∀ (T' : Tw) m', m'.Ok → Kp T.foot m m' → T.Next T' m → TwAt m' T' → T'.σ = T.σ → K (.bool true) m') :
    callOK Tryz.prog W0 15 [ptr T.x 0, .string tp, .string tq, .agg #[(.int .i64 e0), (.int .i64 e1), (.bool sat), (.slice ma mn mc), (.string pf), (.int .i64 x5), (.int .i64 x6), (.int .i64 v.1), (.int .i64 v.2.1), (.int .i64 v.2.2)]] K m := by
  refine callOK_ok fun ok => call15 ?_
  have hlt := h.lt ok
  unfold s15
  rw [zero41]
  refine alloc_row ok ?_
  intro b1 m1 hb1 hlt1 ok1 kp1 row1 bn1
  have t1 := kp1.top
  refine newWorld_spec ?_
  intro z s p' p k m2 hz hs hp' hp hk ok2 kp2 zat2
  refine ⟨_, rfl, ?_⟩
  have h2 := (h.keep kp1 (fun _ _ => by simp)).keep kp2 (fun _ _ => by simp)
  have t2 := kp2.top
  have out : ∀ y, m1.top ≤ y → y ∉ T.foot := fun y hy h0 => by have := hlt y h0; omega
  have zlt : z < m2.top := by
    have := zat2.c1
    unfold Mem.cell at this
    cases hm : m2.blk z with
    | none => simp [hm] at this
    | some f => exact ok2 _ _ hm
  refine sameCheck_spec h2 zat2 ⟨out _ hz, out _ hs, out _ hp', out _ hp, out _ hk⟩ ⟨zlt, zat2.hs.lt ok2, zat2.hk.lt ok2⟩ ?_
  rw [← hv]
  intro T3 m3 ok3 kp3 nx3 at3 es3 _
  refine ⟨_, _, _, _, rfl, ?_⟩
  have t3 := kp3.top
  have row3 := kp3.row (b := b1) (by simp only [List.mem_cons, not_or]; exact ⟨by omega, fun h0 => by have := hlt _ h0; omega⟩) (kp2.row (by simp) row1)
  refine alloc_put ok3 (by simp) one3 (by simp) ?_
  intro b4 m4 hb4 hlt4 ok4 kp4 row4 bn4
  refine ifB_true ?_
  obtain ⟨r0, r1, r2, r3, r4, r5, r6, r7, r8, r9, _⟩ := kp4.row (by simp) row3
  obtain ⟨q0, q1, q2, _⟩ := row4
  refine ⟨_, q0, _, q1, _, q2, _, r7, _, r8, _, r9, ?_⟩
  have e : (v.1 == v.1 && (v.2.1 == v.2.1 && (v.2.2 == v.2.2 && true))) = true := by simp
  dsimp only
  rw [e]
  have kk3 : Kp T.foot m m3 := ((kp1.trans kp2).of_nil).step kp3 ok (fun x hx => by
    rcases List.mem_cons.1 hx with h0 | h0
    · exact .inr (by omega)
    · exact .inl h0)
  exact hK T3 m4 ok4 (kk3.trans kp4.of_nil) ⟨nx3.x, nx3.B, nx3.q, nx3.k, fun x hx => (nx3.ins x hx).orMap id (fun h0 => by omega)⟩ (at3.keep kp4 (fun _ _ => by simp)) es3
end Go.Proofs.Qxb6500974aGreat
