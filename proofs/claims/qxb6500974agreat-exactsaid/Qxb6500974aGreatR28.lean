import Derived.Test.Qxb6500974aGreatR27
set_option linter.all false
set_option linter.unusedSimpArgs false
set_option linter.unusedVariables false
namespace Go.Proofs.Qxb6500974aGreat
open Go.Eng
variable {W0 : World}

theorem copy_own {m : Mem} {a : Option Addr} {n k : Nat} {l : List Int} {K : Nat → Mem → Prop} (ok : m.Ok) (h : SlI m a n l) (hl : l.length < 2 ^ 40) (hne : l ≠ []) (hk : k = n)
    (hK : ∀ b m', m.top ≤ b → m'.Ok → Kp [] m m' → OwnI m' (some ⟨b, 0, none⟩) n n l → K b m') :
    mkSlice m [(.int .i64 0)] 8 (n : Int) (n : Int) fun b m3 => rdRow m3 a k fun r => copyP m3 (some ⟨b, 0, none⟩) r fun m4 => K b m4 := by
  have e1 := h.len
  refine ⟨by omega, by omega, by omega, by omega, ?_⟩
  intro b hb
  have hkm := Kp.new (S := []) ok hb { wr := true, cell := rowsOf [(.int .i64 0)] (Int.toNat (n : Int)) }
  refine Elt.sl.rdI (h.keep0 hkm) hk ?_
  refine stL_of _ 0 _ _ _ (Mem.new_at _ _ _) rfl ?_ ?_ ?_ ?_
  · intro i hi
    simp only [List.length_map] at hi
    simp [rowsOf, e1, hi, Nat.mod_one]
  · intro v hv
    simp only [List.mem_map] at hv
    obtain ⟨x, _, rfl⟩ := hv
    rfl
  · have hk2 : Kp [b] _ _ := Kp.setB (S := [b]) (Mem.new_at m b { wr := true, cell := rowsOf [(.int .i64 0)] (Int.toNat (n : Int)) }) rfl { wr := true, cell := fun j => if 0 ≤ j ∧ j < 0 + (l.map (Value.int .i64)).length then (l.map (Value.int .i64))[j - 0]? else rowsOf [(.int .i64 0)] (Int.toNat (n : Int)) j } (by simp)
    refine hK b _ hb ((ok.new hb _).setB (Mem.new_at _ _ _)) (hkm.step hk2 ok (fun b' hb' => .inr (by simp at hb'; omega))) (OwnI_of_fill (Mem.setB_at _ _ _) rfl (by simpa using e1) ?_)
    intro i x hi
    have hlt : i < l.length := by
      rcases Nat.lt_or_ge i l.length with h' | h'
      · exact h'
      · simp [List.getElem?_eq_none h'] at hi
    simp only [List.length_map, Nat.zero_add, Nat.zero_le, true_and, Nat.sub_zero, if_pos hlt]
    rw [List.getElem?_map, hi]; rfl
  · intro h0
    simp at h0
    exact absurd h0 hne
def Ext (m m' : Mem) : Prop := ∃ X, Kp X m m'
theorem Ext.top {m m' : Mem} (h : Ext m m') : m.top ≤ m'.top := by obtain ⟨X, h⟩ := h; exact h.top
theorem _root_.Go.Eng.Kp.app {X Y : List Nat} {m m' m'' : Mem} (h : Kp X m m') (h' : Kp Y m' m'') : Kp (X ++ Y) m m'' :=
  (h.mono fun _ h => List.mem_append_left _ h).trans (h'.mono fun _ h => List.mem_append_right _ h)
theorem Ext.refl (m : Mem) : Ext m m := ⟨[], Kp.refl _ _⟩
theorem Ext.trans {m m' m'' : Mem} (h : Ext m m') (h' : Ext m' m'') : Ext m m'' := by
  obtain ⟨X, h⟩ := h
  obtain ⟨Y, h'⟩ := h'
  exact ⟨_, h.app h'⟩
theorem _root_.Go.Eng.Kp.ext {X : List Nat} {m m' : Mem} (h : Kp X m m') : Ext m m' := ⟨X, h⟩
theorem keep_spec {w : Nat} {W : Obs} {D : Wd} {src : Key} {a : Option Addr} {n : Nat} {l : List Int} {K : Value → Mem → Prop} {m : Mem} (h : WdAt m w W D) (hs : W src = some (ownOb EI a n n l)) (hsrc : 5 ≤ src.1) (hl : l.length ≤ 12) (ha : a = none ↔ l = []) (hkb : D.ks.length ≤ 2 ^ 33)
    (hK : ∀ W' D' m', m'.Ok → Ext m m' → WdAt m' w W' D' → D'.xs = D.xs → D'.qs = D.qs → D'.ss = D.ss → D'.ks.length ≤ D.ks.length + 1 → (∀ k : Key, 5 ≤ k.1 → k ≠ src → W' k = W k) → K (.tuple #[]) m') :
    callOK Tryz.prog W0 43 [ptr w 0, .slice a n n] K m := by
  refine callOK_ok fun ok => call43 ?_
  unfold s43
  by_cases hn : a = none
  · subst hn
    refine ifB_false ?_
    exact hK W D m ok (Ext.refl _) h rfl rfl rfl (by omega) (fun _ _ _ => rfl)
  have hbt : (!Option.isNone a) = true := by cases a with
    | none => exact (hn rfl).elim
    | some _ => rfl
  rw [hbt]
  refine ifB_true ?_
  have own0 : OwnI m a n n l := h.sep.p _ _ hs
  have hne : l ≠ [] := fun h0 => hn (ha.2 h0)
  refine ⟨by omega, by omega, ?_⟩
  simp only [Int.toNat_natCast, Nat.sub_zero, Nat.min_self]
  rw [own_blk own0]
  refine copy_own ok own0.sl (by omega) hne (by simp) ?_
  intro b m4 hb ok4 kp4 own4
  have s4 := h.sep.new ok kp4 (k := (4, D.ks.length)) (o := ownOb EI (some ⟨b, 0, none⟩) n n l) own4 (fun x hx => .inr (by simp [ownOb, blkOf] at hx; omega))
  have hsk : src ≠ (4, D.ks.length) := fun h0 => by rw [h0] at hsrc; simp at hsrc
  have s5 := s4.move (k := src) (k2 := (3, D.ks.length)) (o := ownOb EI a n n l) (by rw [Obs.upd_ne _ _ hsk]; exact hs)
  have hrow : RowAt m4 w D.cells := h.sep.p _ _ h.kw |> fun hr => (rowOb w D.cells).keep hr kp4 (fun _ _ => by simp)
  have rc := hrow.1.2.2.1
  refine ⟨_, _, _, rc, ?_⟩
  have hl4 : EK.own m4 D.ka D.ks.length D.kc D.ks := (ownOb EK D.ka D.ks.length D.kc D.ks).keep (h.sep.p _ _ h.kk) kp4 (fun _ _ => by simp)
  refine Elt.app1 (E := EK) (x := ⟨a, some ⟨b, 0, none⟩, n, l⟩) ok4 hl4 rfl rfl rfl (by omega) (by omega) ?_
  intro a' c' m6 ok6 kp6 own6 in6
  have s6 := s5.turn ok4 (k := (0, 3)) (o := ownOb EK D.ka D.ks.length D.kc D.ks) (o' := ownOb EK a' (D.ks.length + 1) c' (D.ks ++ [(⟨a, some ⟨b, 0, none⟩, n, l⟩ : Kpt)])) (by
    have : ((0, 3) : Key) ≠ src := fun h0 => by rw [← h0] at hsrc; simp at hsrc
    simp [Obs.upd, this, h.kk]) kp6 own6 in6
  generalize hW3 : ((((W.upd (4, D.ks.length) (some (ownOb EI (some ⟨b, 0, none⟩) n n l))).upd src none).upd (3, D.ks.length) (some (ownOb EI a n n l))).upd (0, 3) (some (ownOb EK a' (D.ks.length + 1) c' (D.ks ++ [(⟨a, some ⟨b, 0, none⟩, n, l⟩ : Kpt)])))) = W3 at s6
  have e3 : ∀ k : Key, k ≠ (4, D.ks.length) → k ≠ (3, D.ks.length) → k ≠ (0, 3) → k ≠ src → W3 k = W k := by
    intro k h1 h2 h3 h4
    rw [← hW3]
    simp [Obs.upd, h1, h2, h3, h4]
  have nsrc : ∀ k : Key, k.1 < 5 → k ≠ src := fun k hk h0 => by rw [h0] at hk; omega
  have w3 : W3 (0, 0) = some (rowOb w D.cells) := by rw [e3 _ (by simp) (by simp) (by simp) (nsrc _ (by simp))]; exact h.kw
  have hrow6 : RowAt m6 w D.cells := s6.p _ _ w3
  refine hrow6.st ok6 (by simp [Wd.cells]) ?_
  intro m7 ok7 kp7 row7
  have ecells : D.cells.set 2 (.slice a' (D.ks.length + 1) c') = ({ D with ks := D.ks ++ [⟨a, some ⟨b, 0, none⟩, n, l⟩], ka := a', kc := c' } : Wd).cells := by
    simp [Wd.cells]
  rw [ecells] at row7
  have s7 := s6.turn ok6 w3 (o' := rowOb w ({ D with ks := D.ks ++ [⟨a, some ⟨b, 0, none⟩, n, l⟩], ka := a', kc := c' } : Wd).cells) kp7 row7 (InS.self _ _)
  have e7 : ∀ k : Key, k ≠ (4, D.ks.length) → k ≠ (3, D.ks.length) → k ≠ (0, 3) → k ≠ src → k ≠ (0, 0) → W3.upd (0, 0) (some (rowOb w ({ D with ks := D.ks ++ [⟨a, some ⟨b, 0, none⟩, n, l⟩], ka := a', kc := c' } : Wd).cells)) k = W k := by
    intro k h1 h2 h3 h4 h5
    rw [Obs.upd_ne _ _ h5]
    exact e3 k h1 h2 h3 h4
  refine hK _ ({ D with ks := D.ks ++ [⟨a, some ⟨b, 0, none⟩, n, l⟩], ka := a', kc := c' } : Wd) m7 ok7 ((kp4.ext.trans kp6.ext).trans kp7.ext) ⟨s7, Obs.upd_eq _ _ _, ?_, ?_, ?_, ?_, ?_, ?_, ?_⟩ rfl rfl rfl (by simp) ?_
  · rw [e7 _ (by simp) (by simp) (by simp) (nsrc _ (by simp)) (by simp)]; exact h.kx
  · rw [e7 _ (by simp) (by simp) (by simp) (nsrc _ (by simp)) (by simp)]; exact h.kq
  · rw [Obs.upd_ne _ _ (by simp), ← hW3, Obs.upd_eq]
    simp
  · rw [e7 _ (by simp) (by simp) (by simp) (nsrc _ (by simp)) (by simp)]; exact h.ks
  · intro i T hi
    rw [e7 _ (by simp) (by simp) (by simp) (nsrc _ (by simp)) (by simp)]; exact h.tx i T hi
  · intro i T hi
    rw [e7 _ (by simp) (by simp) (by simp) (nsrc _ (by simp)) (by simp)]; exact h.tq i T hi
  · intro i k hi
    dsimp only at hi
    by_cases he : i = D.ks.length
    · subst he
      simp at hi
      subst hi
      refine ⟨?_, ?_, hl⟩
      · rw [Obs.upd_ne _ _ (by simp), ← hW3, Obs.upd_ne _ _ (by simp), Obs.upd_eq]
      · rw [Obs.upd_ne _ _ (by simp), ← hW3, Obs.upd_ne _ _ (by simp), Obs.upd_ne _ _ (by simp), Obs.upd_ne _ _ (nsrc _ (by simp)), Obs.upd_eq]
    · have hi2 : D.ks[i]? = some k := by
        rw [List.getElem?_append] at hi
        split at hi
        · exact hi
        · rw [List.getElem?_eq_none (by simp; omega)] at hi; cases hi
      rw [e7 _ (by simp) (by simp [he]) (by simp) (nsrc _ (by simp)) (by simp), e7 _ (by simp [he]) (by simp) (by simp) (nsrc _ (by simp)) (by simp)]
      exact h.kr i k hi2
  · intro k hk hks
    refine e7 k ?_ ?_ ?_ hks ?_
    all_goals intro h0; rw [h0] at hk; simp at hk
end Go.Proofs.Qxb6500974aGreat
