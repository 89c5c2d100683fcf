import Derived.Test.Qxb6500974aGreatM4
set_option linter.all false
set_option linter.unusedSimpArgs false
set_option linter.unusedVariables false
namespace Go.Eng
def iceB (f : Blk) : Blk := { wr := false, cell := f.cell }
def Mem.iceL (m : Mem) (F : List Nat) : Mem := { blk := fun i => if i ∈ F then (m.blk i).map iceB else m.blk i, top := m.top }
theorem Mem.iceL_le {m : Mem} (ok : m.Ok) (F : List Nat) : (m.iceL F).Le m := by
  refine ⟨Nat.le_refl _, fun c f hc => ?_⟩
  simp only [Mem.iceL] at hc ⊢
  split at hc
  · cases hm : m.blk c with
    | none => simp [hm] at hc
    | some g =>
      simp only [hm, Option.map_some, Option.some.injEq] at hc
      subst hc
      exact ⟨ok c g hm, g, rfl, by simp [iceB], fun _ _ h => h⟩
  · exact ⟨ok c f hc, f, hc, id, fun _ _ h => h⟩
theorem Kp.iceL {S F : List Nat} {m0 m : Mem} (h : Kp S m0 m) (ok : m0.Ok) (hF : InS S m0 F) : Kp S m0 (m.iceL F) := by
  refine ⟨h.top, fun c f hc hm => ?_, fun c f hm hw => ?_⟩
  · have h1 := h.keep c f hc hm
    simp only [Mem.iceL]
    rw [if_neg]
    · exact h1
    · intro h0
      rcases hF c h0 with hb | hb
      · exact hc hb
      · have := ok _ _ hm; omega
  · have h1 := h.fz c f hm hw
    simp only [Mem.iceL]
    split
    · rw [h1]
      cases f
      simp only at hw
      subst hw
      rfl
    · exact h1
theorem iceL_cell {m : Mem} {F : List Nat} (b o : Nat) : (m.iceL F).cell b o = m.cell b o := by
  simp only [Mem.cell, Mem.iceL]
  split
  · cases m.blk b <;> rfl
  · rfl
theorem Elt.sl.iceI {m : Mem} {F : List Nat} {a : Option Addr} {n : Nat} {l : List Int} (h : SlI m a n l) (hF : ∀ b ∈ blkOf a, b ∈ F) : FzI (m.iceL F) a n l := by
  obtain ⟨h0, h1⟩ := h
  refine ⟨h0, ?_⟩
  rcases h1 with h1 | ⟨b, o, rfl, h2⟩
  · exact .inl h1
  · by_cases he : l = []
    · exact .inl ⟨he, .inr ⟨b, o, rfl⟩⟩
    · have hbF : b ∈ F := hF b (by simp [blkOf])
      obtain ⟨x, xs, rfl⟩ := List.exists_cons_of_ne_nil he
      obtain ⟨cs, hcs, hr⟩ := h2 0 x (by simp)
      have hcs' : cs = [.int .i64 x] := hcs
      subst hcs'
      have hc := hr.1
      unfold Mem.cell at hc
      cases hm : m.blk b with
      | none => simp [hm] at hc
      | some f =>
        refine .inr ⟨b, o, iceB f, rfl, by simp [Mem.iceL, hbF, hm], rfl, fun i y hi => ?_⟩
        obtain ⟨cs, hcs, hr⟩ := h2 i y hi
        exact ⟨cs, hcs, row_of fun j v hj => by rw [iceL_cell]; exact row_get hr hj⟩
end Go.Eng
namespace Go.Proofs.Qxb6500974aGreat
open Go.Eng
variable {W0 : World}

def gRowsA : Bool → List Int → List Int → List (Bool × List Int)
  | _, _, [] => []
  | d, l, x :: xs => if x = 13 then gRowsA true l xs else if x = 0 then (d, l) :: gRowsA false [] xs else gRowsA d (l ++ [x]) xs
def gRows (f : List Int) : List (Bool × List Int) := gRowsA false [] f

def repF (F : List Nat) (m : Mem) (cs : List Value) (r : Bool × List Int) : Prop := ∃ a n c, cs = [.bool r.1, .slice a n c] ∧ SlI m a n r.2 ∧ ∀ b ∈ blkOf a, b ∈ F
def repsF (F : List Nat) (m : Mem) : List (List Value) → List (Bool × List Int) → Prop
  | [], [] => True
  | cs :: css, x :: xs => repF F m cs x ∧ repsF F m css xs
  | _, _ => False
theorem repF.keep {F S : List Nat} {m m' : Mem} (hk : Kp S m m') (hd : ∀ b ∈ F, b ∉ S) {cs : List Value} {r : Bool × List Int} (h : repF F m cs r) : repF F m' cs r := by
  obtain ⟨a, n, c, h1, h2, h3⟩ := h
  exact ⟨a, n, c, h1, h2.keep hk (fun _ b hb => hd b (h3 b hb)), h3⟩
theorem repF.mono {F F' : List Nat} {m : Mem} (hd : ∀ b ∈ F, b ∈ F') {cs : List Value} {r : Bool × List Int} (h : repF F m cs r) : repF F' m cs r := by
  obtain ⟨a, n, c, h1, h2, h3⟩ := h
  exact ⟨a, n, c, h1, h2, fun b hb => hd b (h3 b hb)⟩
theorem repsF.keep {F S : List Nat} {m m' : Mem} (hk : Kp S m m') (hd : ∀ b ∈ F, b ∉ S) : ∀ {css : List (List Value)} {L : List (Bool × List Int)}, repsF F m css L → repsF F m' css L
  | [], [], _ => trivial
  | _ :: _, _ :: _, h => ⟨h.1.keep hk hd, repsF.keep hk hd h.2⟩
  | [], _ :: _, h => h.elim
  | _ :: _, [], h => h.elim
theorem repsF.mono {F F' : List Nat} {m : Mem} (hd : ∀ b ∈ F, b ∈ F') : ∀ {css : List (List Value)} {L : List (Bool × List Int)}, repsF F m css L → repsF F' m css L
  | [], [], _ => trivial
  | _ :: _, _ :: _, h => ⟨h.1.mono hd, repsF.mono hd h.2⟩
  | [], _ :: _, h => h.elim
  | _ :: _, [], h => h.elim
theorem repsF.snoc {F : List Nat} {m : Mem} : ∀ {css : List (List Value)} {L : List (Bool × List Int)} {cs : List Value} {r : Bool × List Int}, repsF F m css L → repF F m cs r → repsF F m (css ++ [cs]) (L ++ [r])
  | [], [], _, _, _, h' => ⟨h', trivial⟩
  | _ :: _, _ :: _, _, _, h, h' => ⟨h.1, repsF.snoc h.2 h'⟩
  | [], _ :: _, _, _, h, _ => h.elim
  | _ :: _, [], _, _, h, _ => h.elim
theorem repsF.ice {F F' : List Nat} {m : Mem} (hF : ∀ b ∈ F, b ∈ F') : ∀ {css : List (List Value)} {L : List (Bool × List Int)}, repsF F m css L → ER.reps (m.iceL F') css L
  | [], [], _ => trivial
  | _ :: _, _ :: _, ⟨⟨a, n, c, h1, h2, h3⟩, h⟩ => ⟨⟨a, n, c, h1, h2.iceI (fun b hb => hF b (h3 b hb))⟩, repsF.ice hF h⟩
  | [], _ :: _, h => h.elim
  | _ :: _, [], h => h.elim
theorem repsF.len {F : List Nat} {m : Mem} : ∀ {css : List (List Value)} {L : List (Bool × List Int)}, repsF F m css L → css.length = L.length
  | [], [], _ => rfl
  | _ :: _, _ :: _, h => by simp [repsF.len h.2]
  | [], _ :: _, h => h.elim
  | _ :: _, [], h => h.elim

theorem gRowsA_len : ∀ (f : List Int) (d : Bool) (l : List Int), (gRowsA d l f).length ≤ f.length
  | [], _, _ => by simp [gRowsA]
  | x :: xs, d, l => by
    simp only [gRowsA]
    split
    · have := gRowsA_len xs true l; simp; omega
    · split
      · have := gRowsA_len xs false []; simp; omega
      · have := gRowsA_len xs d (l ++ [x]); simp; omega

structure RowsI (m0 : Mem) (m : Mem) (oa : Option Addr) (on oc : Nat) (cur : Nat) (F : List Nat) (R : List (Bool × List Int)) (d : Bool) (l : List Int) : Prop where
  ok : m.Ok
  kp : Kp [] m0 m
  css : ∃ css, OwnV m oa on oc 2 css.flatten ∧ repsF F m css R ∧ on = R.length
  hcur : ∃ f la ln lc, m.blk cur = some f ∧ f.wr = true ∧ f.cell 0 = some (.bool d) ∧ f.cell 1 = some (.slice la ln lc) ∧ OwnI m la ln lc l ∧ InS [] m0 (blkOf la) ∧
    (∀ b ∈ blkOf la, b ≠ cur ∧ b ∉ blkOf oa ∧ b ∉ F)
  nc : m0.top ≤ cur ∧ cur ∉ blkOf oa ∧ cur ∉ F
  no : InS [] m0 (blkOf oa) ∧ ∀ b ∈ blkOf oa, b ∉ F
  nf : InS [] m0 F ∧ ∀ b ∈ F, b < m.top
theorem flatten_snoc {α : Type} (css : List (List α)) (cs : List α) : (css ++ [cs]).flatten = css.flatten ++ cs := by simp
theorem rows_spec {a : Option Addr} {n c : Nat} {f : List Int} {R : List (Bool × List Int)} {K : Value → Mem → Prop} {m : Mem} (h : SlI m a n f) (hf : f.length < 2 ^ 36) (hr : gRows f = R)
    (hK : ∀ a' c' m', m'.Ok → Kp [] m m' → FzR m' a' R.length R → K (.slice a' R.length c') m') : callOK Tryz.prog W0 82 [.slice a n c] K m := by
  refine callOK_ice fun ok => call82 ?_
  have e1 := h.len
  unfold s82
  intro b hb
  have hz : zeroBlk Tryz.prog 153 = Blk.ofList [.bool false, .slice none 0 0] := by kernel_rfl
  rw [hz]
  have hkm := Kp.new (S := []) ok hb (Blk.ofList [.bool false, .slice none 0 0])
  refine stL_of _ 0 _ _ _ (Mem.new_at _ _ _) rfl ?_ ?_ ?_ ?_
  · intro i hi
    simp only [List.length_cons, List.length_nil] at hi
    have : i = 0 ∨ i = 1 := by omega
    rcases this with rfl | rfl <;> rfl
  · intro v hv
    simp at hv
    rcases hv with rfl | rfl <;> rfl
  · have hk2 : Kp [b] _ _ := Kp.setB (S := [b]) (Mem.new_at m b (Blk.ofList [.bool false, .slice none 0 0])) rfl { wr := true, cell := fun j => if 0 ≤ j ∧ j < 0 + [Value.bool false, Value.slice none 0 0].length then [Value.bool false, Value.slice none 0 0][j - 0]? else (Blk.ofList [.bool false, .slice none 0 0]).cell j } (by simp)
    refine loop82_1 (γ := Nat × List Nat × List (Bool × List Int) × Bool × List Int) (fun g oa on oc i m' => i = g.1 ∧ g.1 ≤ f.length ∧ RowsI m m' oa on oc b g.2.1 g.2.2.1 g.2.2.2.1 g.2.2.2.2 ∧ (g.2.2.1.length + g.2.2.2.2.length ≤ g.1) ∧ g.2.2.1 ++ gRowsA g.2.2.2.1 g.2.2.2.2 (f.drop g.1) = R)
      (fun g _ _ _ _ => f.length - g.1) (0, [], [], false, []) ⟨rfl, by omega, ?_, by simp, by simpa [gRows] using hr⟩ ?_
    · refine ⟨(ok.new hb _).setB (Mem.new_at _ _ _), hkm.step hk2 ok (fun b' hb' => .inr (by simp at hb'; omega)), ⟨[], OwnV.nil _ _, trivial, rfl⟩, ⟨_, none, 0, 0, Mem.setB_at _ _ _, rfl, rfl, rfl, Elt.own.nil _, InS.nil _ _, by simp [blkOf]⟩, ⟨hb, by simp [blkOf], by simp⟩, ⟨InS.nil _ _, by simp [blkOf]⟩, ⟨InS.nil _ _, by simp⟩⟩
    rintro ⟨k, F, R', d, l⟩ oa on oc i m1 ⟨rfl, hk, inv, hlen, hj⟩
    dsimp only at hk inv hlen hj ⊢
    obtain ⟨ok1, kp1, ⟨css, own1, reps1, hon⟩, ⟨fb, la, ln, lc, c1, c2, c3, c4, c5, c6, c7⟩, ⟨n1, n2, n3⟩, ⟨o1, o2⟩, ⟨f1, f2⟩⟩ := inv
    unfold s82_1
    refine ifB_lt (fun hlt => ?_) (fun hlt => ?_)
    · have hkl : k < f.length := by omega
      rw [drop_cons hkl 0] at hj
      simp only [gRowsA] at hj
      refine (h.keep0 kp1).get (by omega) (by omega) fun _ _ _ => ?_
      simp only [Int.toNat_natCast]
      refine ifB_eq (fun he => ?_) (fun he => ?_)
      · rw [if_pos he] at hj
        refine ⟨fb, c1, c2, by rw [c3]; rfl, ?_⟩
        have hk3 : Kp [b] m1 _ := Kp.setB (S := [b]) c1 c2 (fb.upd 0 (.bool true)) (by simp)
        refine ⟨(k + 1, F, R', true, l), _, _, _, _, rfl, ⟨wrapS k (by omega), by dsimp only; omega, ?_, by dsimp only; omega, hj⟩, by dsimp only; omega⟩
        refine ⟨ok1.setB c1, kp1.step hk3 ok (fun b' hb' => .inr (by simp at hb'; omega)), ⟨css, own1.keep hk3 (fun b' hb' h0 => n2 (by simp at h0; subst h0; exact hb')), reps1.keep hk3 (fun b' hb' h0 => n3 (by simp at h0; subst h0; exact hb')), hon⟩,
          ⟨_, la, ln, lc, Mem.setB_at _ _ _, c2, rfl, by simp [Blk.upd, c4], c5.keep hk3 (fun b' hb' h0 => (c7 b' hb').1 (by simpa using h0)), c6, c7⟩, ⟨n1, n2, n3⟩, ⟨o1, o2⟩, ⟨f1, f2⟩⟩
      · rw [if_neg he] at hj
        refine (h.keep0 kp1).get (by omega) (by omega) fun _ _ _ => ?_
        simp only [Int.toNat_natCast]
        refine ifB_eq (fun he => ?_) (fun he => ?_)
        · rw [if_pos he] at hj
          refine ⟨d, Mem.cell_of c1 c3, la, ln, lc, Mem.cell_of c1 c4, ?_⟩
          refine append1 ok1 own1 rfl (by omega) rfl (by intro v hv; simp at hv; rcases hv with rfl | rfl <;> rfl) (by omega) (by omega) ?_
          intro a2 c2' m2 ok2 kp2 own2 in2
          have hbn : b ∉ blkOf oa := n2
          have cb2 := kp2.keep b fb hbn c1
          refine stL_of _ 0 _ _ _ cb2 c2 ?_ ?_ ?_ ?_
          · intro i hi
            simp only [List.length_cons, List.length_nil] at hi
            have : i = 0 ∨ i = 1 := by omega
            rcases this with rfl | rfl
            · simp [c3]
            · simp [c4]
          · intro v hv
            simp at hv
            rcases hv with rfl | rfl <;> rfl
          · have hk3 : Kp [b] m2 _ := Kp.setB (S := [b]) cb2 c2 { wr := true, cell := fun j => if 0 ≤ j ∧ j < 0 + [Value.bool false, Value.slice none 0 0].length then [Value.bool false, Value.slice none 0 0][j - 0]? else fb.cell j } (by simp)
            have k12 := kp1.step kp2 ok o1
            have l5 := c5.lt ok1
            have l1 := own1.lt ok1
            have na2 : ∀ b', b' ∈ blkOf a2 → b' ≠ b ∧ b' ∉ F ∧ b' ∉ blkOf la := by
              intro b' hb'
              rcases in2 b' hb' with h0 | h0
              · exact ⟨fun h1 => n2 (h1 ▸ h0), o2 b' h0, fun h1 => (c7 b' h1).2.1 h0⟩
              · have hlb := ok1 b fb c1
                exact ⟨by omega, fun h1 => by have := f2 b' h1; omega, fun h1 => by have := l5 b' h1; omega⟩
            refine ⟨(k + 1, F ++ blkOf la, R' ++ [(d, l)], false, []), _, _, _, _, rfl, ⟨wrapS k (by omega), by dsimp only; omega, ?_, by dsimp only; simp only [List.length_append, List.length_cons, List.length_nil]; omega, by simpa using hj⟩, by dsimp only; omega⟩
            dsimp only
            refine ⟨ok2.setB cb2, k12.step hk3 ok (fun b' hb' => .inr (by simp at hb'; omega)), ⟨css ++ [[.bool d, .slice la ln lc]], ?_, ?_, by simp; omega⟩,
              ⟨_, none, 0, 0, Mem.setB_at _ _ _, rfl, rfl, rfl, Elt.own.nil _, InS.nil _ _, by simp [blkOf]⟩, ⟨n1, fun h0 => (na2 b h0).1 rfl, ?_⟩, ⟨o1.trans in2 kp1.top, ?_⟩, ⟨f1.append c6, ?_⟩⟩
            · rw [flatten_snoc]
              exact own2.keep hk3 (fun b' hb' h0 => (na2 b' hb').1 (by simpa using h0))
            · refine repsF.snoc ?_ ⟨la, ln, lc, rfl, ?_, fun b' hb' => by simp [hb']⟩
              · exact ((reps1.keep kp2 (fun b' hb' h0 => o2 b' h0 hb')).keep hk3 (fun b' hb' h0 => n3 (by simp at h0; subst h0; exact hb'))).mono (fun b' hb' => by simp [hb'])
              · exact ((c5.keep kp2 (fun b' hb' => (c7 b' hb').2.1)).keep hk3 (fun b' hb' h0 => (c7 b' hb').1 (by simpa using h0))).sl
            · intro h0
              rcases List.mem_append.1 h0 with h0 | h0
              · exact n3 h0
              · exact (c7 b h0).1 rfl
            · intro b' hb' h0
              rcases List.mem_append.1 h0 with h0 | h0
              · exact (na2 b' hb').2.1 h0
              · exact (na2 b' hb').2.2 h0
            · intro b' h0
              rw [Mem.setB_top]
              have := kp2.top
              rcases List.mem_append.1 h0 with h0 | h0
              · have := f2 b' h0; omega
              · have := l5 b' h0; omega
          · intro h0; cases h0
        · rw [if_neg he] at hj
          refine ⟨la, ln, lc, Mem.cell_of c1 c4, ?_⟩
          refine (h.keep0 kp1).get (by omega) (by omega) fun _ _ _ => ?_
          simp only [Int.toNat_natCast]
          have eln := c5.len
          refine Elt.app1 (E := EI) ok1 c5 (x := f.getD k 0) rfl rfl rfl (by omega) (by omega) ?_
          intro a2 c2' m2 ok2 kp2 own2 in2
          have cb2 := kp2.keep b fb (fun h0 => (c7 b h0).1 rfl) c1
          refine ⟨fb, cb2, c2, by rw [c4]; rfl, ?_⟩
          have hk3 : Kp [b] m2 _ := Kp.setB (S := [b]) cb2 c2 (fb.upd 1 (.slice a2 (ln + 1) c2')) (by simp)
          have k12 := kp1.step kp2 ok c6
          have l1 := own1.lt ok1
          have hlb := ok1 b fb c1
          have na2 : ∀ b', b' ∈ blkOf a2 → b' ≠ b ∧ b' ∉ blkOf oa ∧ b' ∉ F := by
            intro b' hb'
            rcases in2 b' hb' with h0 | h0
            · exact c7 b' h0
            · exact ⟨by omega, fun h1 => by have := l1 b' h1; omega, fun h1 => by have := f2 b' h1; omega⟩
          refine ⟨(k + 1, F, R', d, l ++ [f.getD k 0]), _, _, _, _, rfl, ⟨wrapS k (by omega), by dsimp only; omega, ?_, by dsimp only; simp only [List.length_append, List.length_cons, List.length_nil]; omega, hj⟩, by dsimp only; omega⟩
          dsimp only
          refine ⟨ok2.setB cb2, k12.step hk3 ok (fun b' hb' => .inr (by simp at hb'; omega)), ⟨css, ?_, ?_, hon⟩,
            ⟨_, a2, _, c2', Mem.setB_at _ _ _, c2, by simp [Blk.upd, c3], rfl, own2.keep hk3 (fun b' hb' h0 => (na2 b' hb').1 (by simpa using h0)), c6.trans in2 kp1.top, na2⟩, ⟨n1, n2, n3⟩, ⟨o1, o2⟩, ⟨f1, ?_⟩⟩
          · exact (own1.keep kp2 (fun b' hb' h0 => (c7 b' h0).2.1 hb')).keep hk3 (fun b' hb' h0 => n2 (by simp at h0; subst h0; exact hb'))
          · exact (reps1.keep kp2 (fun b' hb' h0 => (c7 b' h0).2.2 hb')).keep hk3 (fun b' hb' h0 => n3 (by simp at h0; subst h0; exact hb'))
          · intro b' h0
            rw [Mem.setB_top]
            have := kp2.top
            have := f2 b' h0
            omega
    · rw [e82_1x0]
      have : k = f.length := by omega
      subst this
      rw [List.drop_length] at hj
      simp only [gRowsA, List.append_nil] at hj
      subst hj
      intro okx
      refine ⟨m1.iceL (blkOf oa ++ F), Mem.iceL_le okx _, rfl, fun ok' => ?_⟩
      rw [hon]
      refine hK _ _ _ ok' (kp1.iceL ok (o1.append f1)) ?_
      have hreps := repsF.ice (F' := blkOf oa ++ F) (fun b hb => by simp [hb]) reps1
      refine ⟨rfl, ?_⟩
      rcases own1.2.2 with ⟨ha, hc0⟩ | ⟨b', f', ha, h5, h6, h7, h8⟩
      · have : on = 0 := by have := own1.2.1; omega
        exact .inl ⟨List.eq_nil_of_length_eq_zero (by omega), .inl ha⟩
      · refine .inr ⟨b', 0, iceB f', ha, by simp [Mem.iceL, ha, blkOf, h5], rfl, fun i x hi => ?_⟩
        obtain ⟨cs, h9, h10⟩ := Elt.reps_at hreps hi
        refine ⟨cs, h9, row_of fun j v hj => ?_⟩
        rw [iceL_cell]
        refine Mem.cell_of h5 ?_
        have := h7 _ _ (h10 j v hj)
        simpa [ER] using this
  · intro h0; cases h0
end Go.Proofs.Qxb6500974aGreat
