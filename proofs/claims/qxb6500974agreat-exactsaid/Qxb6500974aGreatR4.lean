import Derived.Test.Qxb6500974aGreatR3
set_option linter.all false
set_option linter.unusedSimpArgs false
set_option linter.unusedVariables false
namespace Go.Proofs.Qxb6500974aGreat
open Go.Eng
variable {W0 : World}

def gRoomA (w : Wt) : Nat → Nat → Int
  | 0, _ => -1
  | n + 1, id => if (w id).st = 0 then (id : Int) else gRoomA w n (id + 1)
def gRoom (w : Wt) (learnt : Bool) : Int := if learnt = true then gRoomA w 12 40 else gRoomA w 40 0
theorem room_spec {b t : Nat} {w : Wt} {learnt : Bool} {r : Int} {K : Value → Mem → Prop} {m : Mem} (h : WAt m b t w) (hr : gRoom w learnt = r) (hK : K (.int .i64 r) m) : callOK Tryz.prog W0 96 [ptr b 0, .bool learnt] K m := by
  refine call96 ?_
  obtain ⟨g, c, h1, h2, h3⟩ := h
  have key := fun (hi lo : Nat) (hh : lo ≤ hi ∧ hi ≤ 52) (hr : gRoomA w (hi - lo) lo = r) => loop96_1 (C := callOK Tryz.prog W0) (w0 := b) (hi6 := (hi : Int)) (K := K) (m := m) (γ := Nat)
    (fun k t4 id m' => m' = m ∧ id = k ∧ k ≤ hi ∧ gRoomA w (hi - k) k = r) (fun k _ _ => hi - k) lo (t4 := 0) (id7 := (lo : Int)) ⟨rfl, rfl, by omega, hr⟩ (by
      rintro k t4 id m' ⟨rfl, rfl, hk, hj⟩
      unfold s96_1
      refine ifB_lt (fun hlt => ?_) (fun hlt => ?_)
      · have ek : hi - k = (hi - (k + 1)) + 1 := by omega
        rw [ek] at hj
        simp only [gRoomA] at hj
        refine ⟨_, h1.used, ?_⟩
        dsimp only
        rw [goHas_eq h3.used.1 (by omega), h3.used.2 _ (by omega)]
        refine ifB_not (fun h0 => ?_) (fun h0 => ?_)
        · rw [e96_1r]
          rw [if_pos (by simpa using h0)] at hj
          subst hj; exact hK
        · rw [if_neg (by simpa using h0)] at hj
          exact ⟨k + 1, _, _, rfl, ⟨rfl, wrapS k (by omega), by omega, hj⟩, by omega⟩
      · rw [e96_1x0]
        have : k = hi := by omega
        subst this
        rw [Nat.sub_self] at hj
        simp only [gRoomA] at hj
        subst hj; exact hK)
  unfold s96
  unfold gRoom at hr
  refine ifB_of (fun hl => ?_) (fun hl => ?_)
  · rw [if_pos hl] at hr
    exact key 52 40 (by omega) hr
  · rw [if_neg (by rw [hl]; decide)] at hr
    exact key 40 0 (by omega) hr

theorem gCC_NF : ∀ (l : List Int) (p : Int), gCC p l = 0 → (∀ x ∈ l, goGoodLit x = true) ∧ (∀ x ∈ l, p < goVar x) ∧ l.Pairwise fun a b => a.natAbs < b.natAbs
  | [], p, _ => by simp
  | x :: xs, p, h => by
    simp only [gCC] at h
    split at h
    · cases h
    · rename_i hg
      split at h
      · cases h
      · rename_i hv
        have hg' : goGoodLit x = true := by simpa using hg
        have ih := gCC_NF xs _ h
        have hx := good_abs hg'
        refine ⟨?_, ?_, ?_⟩
        · intro y hy
          rcases List.mem_cons.1 hy with rfl | hy
          · exact hg'
          · exact ih.1 y hy
        · intro y hy
          rcases List.mem_cons.1 hy with rfl | hy
          · omega
          · have := ih.2.1 y hy; omega
        · rw [List.pairwise_cons]
          refine ⟨fun y hy => ?_, ih.2.2⟩
          have h1 := ih.2.1 y hy
          have h2 := good_abs (ih.1 y hy)
          omega
theorem NF_gCC : ∀ (l : List Int) (p : Int), NF l → (∀ x ∈ l, p < goVar x) → gCC p l = 0
  | [], p, _, _ => rfl
  | x :: xs, p, h, hp => by
    simp only [gCC]
    have hg := h.1 x (by simp)
    rw [if_neg (by rw [hg]; decide), if_neg (by have := hp x (by simp); omega)]
    have h2 := h.2
    rw [List.pairwise_cons] at h2
    refine NF_gCC xs _ ⟨fun y hy => h.1 y (by simp [hy]), h2.2⟩ fun y hy => ?_
    have h3 := h2.1 y hy
    have h4 := good_abs hg
    have h5 := good_abs (h.1 y (by simp [hy]))
    omega
theorem NF.len {l : List Int} (h : NF l) : l.length ≤ 12 := vars_len h.1 (sorted_vars h.2)
theorem NF.check {l : List Int} (h : NF l) : gCheckClause l = 0 := by
  unfold gCheckClause
  rw [if_neg (by have := h.len; omega)]
  refine NF_gCC l 0 h fun x hx => ?_
  have := good_abs (h.1 x hx)
  omega

theorem add_spec {b t : Nat} {w : Wt} {l : List Int} {id : Nat} {learnt : Bool} {a : Option Addr} {n c : Nat} {K : Value → Mem → Prop} {m : Mem} (h : WAt m b t w) (hl : SlI m a n l) (hd : l ≠ [] → ∀ x ∈ blkOf a, x ∉ [b]) (hn : NF l) (hr : gRoom w learnt = (id : Int)) (hid : id < 52) (hst : (w id).st = 0)
    (hK : ∀ m', m'.Ok → Kp [b] m m' → WAt m' b t (fupd w id ⟨1, l⟩) → K (.tuple #[.int .i64 id, .int .i64 0]) m') : callOK Tryz.prog W0 55 [ptr b 0, .slice a n c, .bool learnt] K m := by
  refine callOK_ok fun ok => call55 ?_
  unfold s55
  have h' := h
  have el := hl.len
  have h12 := hn.len
  refine checkClause_spec hl hn.check ⟨_, rfl, ?_⟩
  refine ifB_ne (fun h0 => absurd rfl h0) (fun _ => ?_)
  refine room_spec h hr ⟨_, rfl, ?_⟩
  refine ifB_lt (fun h0 => ?_) (fun _ => ?_)
  · have hF : False := by omega
    cases hF
  obtain ⟨g, c0, h1, h2, h3⟩ := h
  rw [wrap_i64 (n := (id : Int) * 12) (by omega) (by omega)]
  refine loop55_1 (γ := Nat × WaC) (fun g i m' => i = g.1 ∧ g.1 ≤ l.length ∧ m'.Ok ∧ Kp [b] m m' ∧ WaB m' b g.2 ∧ (∀ j, j < g.1 → g.2.lits (id * 12 + j) = l.getD j 0) ∧ (∀ j, (j < id * 12 ∨ id * 12 + 12 ≤ j) → g.2.lits j = c0.lits j) ∧
      g.2.t = c0.t ∧ g.2.size = c0.size ∧ g.2.used = c0.used ∧ g.2.fresh = c0.fresh ∧ g.2.weak = c0.weak ∧ g.2.list = c0.list) (fun g _ => l.length - g.1) (0, c0)
    ⟨rfl, by dsimp only; omega, ok, Kp.refl _ _, h1, by intro j hj; dsimp only at hj; omega, fun _ _ => rfl, rfl, rfl, rfl, rfl, rfl, rfl⟩ ?_
  rintro ⟨k, c1⟩ i m1 ⟨rfl, hk, ok1, kp1, b1, e1, e2, e3, e4, e5, e6, e7, e8⟩
  dsimp only at hk b1 e1 e2 e3 e4 e5 e6 e7 e8 ⊢
  unfold s55_1
  refine ifB_lt (fun hlt => ?_) (fun hlt => ?_)
  · have hkl : k < l.length := by omega
    refine (hl.keep kp1 hd).get (by omega) (by omega) fun _ _ _ => ?_
    simp only [Int.toNat_natCast]
    have hw : IntKind.wrap .i64 ((id : Int) * 12 + (k : Int)) = ((id * 12 + k : Nat) : Int) := by rw [wrap_i64 (by omega) (by omega)]; omega
    rw [hw]
    refine ⟨by omega, by omega, ?_⟩
    simp only [Int.toNat_natCast]
    refine b1.st_lits ok1 (by omega) ?_
    intro m2 ok2 kp2 b2
    refine ⟨(k + 1, _), _, rfl, ⟨wrapS k (by omega), by dsimp only; omega, ok2, kp1.trans kp2, b2, ?_, ?_, e3, e4, e5, e6, e7, e8⟩, by dsimp only; omega⟩
    · intro j hj
      dsimp only at hj ⊢
      by_cases he : j = k
      · subst he; rw [fupd_at]
      · rw [fupd_ne _ _ (by omega)]; exact e1 j (by omega)
    · intro j hj
      dsimp only
      rw [fupd_ne _ _ (by omega)]; exact e2 j hj
  · rw [e55_1x0]
    have : k = l.length := by omega
    subst this
    unfold s55_1x0
    refine ⟨by omega, by omega, ?_⟩
    simp only [Int.toNat_natCast]
    refine b1.st_size ok1 (by omega) ?_
    intro m2 ok2 kp2 b2
    refine ⟨_, b2.used, ?_⟩
    rw [goBit_eq (by omega)]
    refine b2.st_used ok2 ?_
    intro m3 ok3 kp3 b3
    refine ⟨_, b3.fresh, ?_⟩
    refine b3.st_fresh ok3 ?_
    intro m4 ok4 kp4 b4
    have hp := u64_pow (j := id) (by omega)
    have ou := u64_or h3.used.1 hp
    have of := u64_or h3.fresh.1 hp
    have hent : ∀ i, fupd w id ⟨1, l⟩ i = if i = id then ⟨1, l⟩ else w i := fun i => rfl
    refine hK m4 ok4 (((kp1.trans kp2).trans kp3).trans kp4) ⟨⟨?_, ?_⟩, _, b4, e3.trans h2, ?_⟩
    · intro i
      rw [hent]
      split
      · exact ⟨by dsimp only; omega, by dsimp only; omega, hn.1, sorted_vars hn.2, by dsimp only; omega⟩
      · exact g.cl i
    · intro i hi
      rw [hent, if_neg (by omega)]; exact g.out i hi
    refine ⟨?_, ?_, ?_, ?_, ?_, ?_⟩
    · dsimp only
      rw [e5]
      refine ⟨ou.1, fun i hi => ?_⟩
      rw [ou.2, tb_pow, h3.used.2 i hi, hent]
      by_cases he : i = id
      · simp [he]
      · simp [he]
    · dsimp only
      rw [e6]
      refine ⟨of.1, fun i hi => ?_⟩
      rw [of.2, tb_pow, h3.fresh.2 i hi, hent]
      by_cases he : i = id
      · simp [he]
      · simp [he]
    · dsimp only
      rw [e7]
      refine ⟨h3.weak.1, fun i hi => ?_⟩
      rw [h3.weak.2 i hi, hent]
      by_cases he : i = id
      · subst he; simp [hst]
      · simp [he]
    · intro i hi
      dsimp only
      rw [e4, hent]
      by_cases he : i = id
      · subst he; rw [fupd_at, if_pos rfl, el]
      · rw [fupd_ne _ _ he, if_neg he]; exact h3.size i hi
    · intro i hi j x hx
      dsimp only
      rw [hent] at hx
      by_cases he : i = id
      · subst he
        rw [if_pos rfl] at hx
        dsimp only at hx
        have hjl : j < l.length := by
          rcases Nat.lt_or_ge j l.length with h | h
          · exact h
          · rw [List.getElem?_eq_none h] at hx; cases hx
        rw [e1 j hjl]
        simp [List.getD, hx]
      · rw [if_neg he] at hx
        have hjl : j < (w i).lits.length := by
          rcases Nat.lt_or_ge j (w i).lits.length with h | h
          · exact h
          · rw [List.getElem?_eq_none h] at hx; cases hx
        have := (g.cl i).len
        rw [e2 _ (by omega)]
        exact h3.lits i hi j x hx
    · intro k hk
      dsimp only
      rw [e8]
      refine ⟨(h3.list k hk).1, fun i hi => ?_⟩
      rw [(h3.list k hk).2 i hi, hent]
      by_cases he : i = id
      · subst he; simp [watches, hst]
      · simp [he]

theorem nfA_len_le (l : List Int) : ∀ (n v : Nat), (nfA l n v).length ≤ n
  | 0, v => by simp [nfA]
  | n + 1, v => by
    have := nfA_len_le l n (v + 1)
    simp only [nfA, List.length_append]
    have h2 : (nfV l v).length ≤ 1 := by
      unfold nfV
      split
      · simp
      · split <;> simp
    omega
theorem and_one16 {n : Nat} (hn : n < 65536) : (bAnd .u16 (n : Int) 1 == 1) = decide (n % 2 = 1) := by
  have h := (u16_and (x := (n : Int)) (y := 1) ⟨by omega, by omega⟩ ⟨by decide, by decide⟩)
  have h0 : ∀ i, tb (1 : Int) i = decide (i = 0) := fun i => by have := tb_pow 0 i; simpa using this
  have hb0 : tb (n : Int) 0 = decide (n % 2 = 1) := by
    unfold tb
    rw [Int.toNat_natCast, Nat.testBit_zero]
  by_cases hp : n % 2 = 1
  · have : bAnd .u16 (n : Int) 1 = 1 := u16_ext h.1 ⟨by decide, by decide⟩ fun i hi => by
      rw [h.2, h0]
      by_cases hi0 : i = 0
      · subst hi0; rw [hb0]; simp [hp]
      · simp [hi0]
    rw [this]; simp [hp]
  · have : bAnd .u16 (n : Int) 1 = 0 := u16_ext h.1 ⟨by decide, by decide⟩ fun i hi => by
      rw [h.2, h0, tb_zero]
      by_cases hi0 : i = 0
      · subst hi0; rw [hb0]; simp [hp]
      · simp [hi0]
    rw [this]; simp [hp]
theorem shr16 {x : Int} (h : U16 x) {j : Nat} (hj : j < 16) : shrV .u16 x (IntKind.wrap .u64 (j : Int)) = ((x.toNat / 2 ^ j : Nat) : Int) := by
  unfold shrV
  rw [wrap_u64 (n := (j : Int)) (by omega) (by omega)]
  have h1 : min ((j : Int).toNat) (IntKind.bits .u16) = j := by simp [IntKind.bits]; omega
  rw [h1]
  have h2 : (2 : Int) ^ j = ((2 ^ j : Nat) : Int) := by simp
  rw [h2, Int.fdiv_eq_ediv_of_nonneg _ (Int.natCast_nonneg _)]
  have := h.1
  have h3 : x = ((x.toNat : Nat) : Int) := by omega
  rw [h3]
  simp
theorem has16_eq {x : Int} (h : U16 x) {j : Nat} (hj : j < 16) : (bAnd .u16 (shrV .u16 x (IntKind.wrap .u64 (j : Int))) 1 == 1) = tb x j := by
  rw [shr16 h hj]
  have h1 : x.toNat / 2 ^ j < 65536 := by
    have := Nat.div_le_self x.toNat (2 ^ j)
    have := h.2; have := h.1
    omega
  rw [and_one16 h1]
  unfold tb
  rw [Nat.testBit_eq_decide_div_mod_eq]

theorem clause_spec {b t : Nat} {w : Wt} {id : Int} {K : Value → Mem → Prop} {m : Mem} (h : WAt m b t w)
    (hK0 : liveB w id = false → K (.tuple #[.slice none 0 0, .int .i64 13]) m)
    (hK1 : liveB w id = true → ∀ a n c m', m'.Ok → Kp [] m m' → FzI m' a n (nf (w id.toNat).lits) → K (.tuple #[.slice a n c, .int .i64 0]) m') : callOK Tryz.prog W0 46 [ptr b 0, .int .i64 id] K m := by
  refine callOK_ice fun ok => call46 ?_
  have hlt := h.lt ok
  unfold s46
  refine live_spec h ⟨_, rfl, ?_⟩
  obtain ⟨g, c, h1, h2, h3⟩ := h
  refine ifB_not (fun hl => ?_) (fun hl => ?_)
  · intro _
    exact ⟨m, Mem.Le.rfl' ok, rfl, fun _ => hK0 hl⟩
  · have hl2 := hl
    unfold liveB at hl2
    simp only [Bool.and_eq_true, decide_eq_true_eq] at hl2
    obtain ⟨k, rfl⟩ : ∃ k : Nat, id = k := ⟨id.toNat, by omega⟩
    simp only [Int.toNat_natCast] at hl2 hK1
    have hk52 : k < 52 := by
      rcases Nat.lt_or_ge k 52 with h | h
      · exact h
      · exact absurd (g.out k h) hl2.2
    have cg := g.cl k
    have h12 := cg.len
    refine ⟨by omega, by omega, ?_⟩
    simp only [Int.toNat_natCast]
    refine ⟨_, h1.size hk52, ?_⟩
    rw [h3.size k hk52]
    generalize hL : (w k).lits = L at cg h12 hK1
    have hperm : (nf L).Perm L := nf_perm (by rw [← hL]; exact (g.cl k).good) (by rw [← hL]; exact (g.cl k).vars)
    have hgood : ∀ x ∈ L, goGoodLit x = true := by rw [← hL]; exact (g.cl k).good
    have hplen := hperm.length_eq
    refine ifB_eq (fun h0 => ?_) (fun h0 => ?_)
    · intro _
      have hnil : L = [] := List.eq_nil_of_length_eq_zero (by omega)
      refine ⟨m, Mem.Le.rfl' ok, rfl, fun ok' => hK1 hl none 0 0 m ok' (Kp.refl _ _) ?_⟩
      subst hnil
      exact Elt.fz.nil _
    · rw [wrap_i64 (n := (k : Int) * 12) (by omega) (by omega)]
      have hcell : ∀ i, i < L.length → c.lits (k * 12 + i) = L.getD i 0 := by
        intro i hi
        refine h3.lits k hk52 i _ ?_
        rw [hL]
        exact getD_some hi 0
      refine loop46_1 (γ := Nat) (fun q pos neg i m' => m' = m ∧ i = q ∧ q ≤ L.length ∧ U16 pos ∧ U16 neg ∧ (∀ v, v < 16 → tb pos v = (L.take q).any (fun x => decide (x = (v : Int)))) ∧ (∀ v, v < 16 → tb neg v = (L.take q).any (fun x => decide (x = -(v : Int) ∧ x < 0)))) (fun q _ _ _ => L.length - q) 0
        ⟨rfl, rfl, by omega, ⟨by omega, by omega⟩, ⟨by omega, by omega⟩, by simp [tb_zero], by simp [tb_zero]⟩ ?_
      rintro q pos neg i m' ⟨rfl, rfl, hq, hu1, hu2, hp, hn⟩
      unfold s46_1
      refine ifB_lt (fun hlt2 => ?_) (fun hlt2 => ?_)
      · have hql : q < L.length := by omega
        have hx := good_abs (hgood _ (mem_getD hql 0))
        have hw : IntKind.wrap .i64 ((k : Int) * 12 + (q : Int)) = ((k * 12 + q : Nat) : Int) := by rw [wrap_i64 (by omega) (by omega)]; omega
        rw [hw]
        refine ⟨by omega, by omega, ?_⟩
        simp only [Int.toNat_natCast]
        refine ⟨_, h1.lits (by omega), ?_⟩
        rw [hcell q hql]
        generalize hxx : L.getD q 0 = x at hx
        have htk : L.take (q + 1) = L.take q ++ [x] := by rw [take_succ_getD hql 0, hxx]
        refine ifB_gt (fun hpos => ?_) (fun hpos => ?_)
        · refine ⟨wrap_u64_nonneg _, ?_⟩
          obtain ⟨v, rfl⟩ : ∃ v : Nat, x = v := ⟨x.toNat, by omega⟩
          rw [shl16 (by omega)]
          have o := u16_or hu1 (u16_pow (j := v) (by omega))
          refine ⟨q + 1, _, _, _, rfl, ⟨rfl, wrapS q (by omega), by omega, o.1, hu2, ?_, ?_⟩, by omega⟩
          · intro u hu
            rw [o.2, hp u hu, tb_pow, htk, List.any_append]
            congr 1
            simp only [List.any_cons, List.any_nil, Bool.or_false]
            exact decide_eq_decide.2 ⟨fun h => by omega, fun h => by omega⟩
          · intro u hu
            rw [hn u hu, htk, List.any_append]
            have : ¬ ((v : Int) = -(u : Int) ∧ (v : Int) < 0) := by omega
            simp [this]
        · refine ⟨wrap_u64_nonneg _, ?_⟩
          obtain ⟨v, rfl⟩ : ∃ v : Nat, x = -(v : Int) := ⟨x.natAbs, by omega⟩
          have hw2 : IntKind.wrap .i64 (0 - -(v : Int)) = (v : Int) := by rw [wrap_i64 (by omega) (by omega)]; omega
          rw [hw2, shl16 (by omega)]
          have o := u16_or hu2 (u16_pow (j := v) (by omega))
          refine ⟨q + 1, _, _, _, rfl, ⟨rfl, wrapS q (by omega), by omega, hu1, o.1, ?_, ?_⟩, by omega⟩
          · intro u hu
            rw [hp u hu, htk, List.any_append]
            have : ¬ (-(v : Int) = (u : Int)) := by omega
            simp [this]
          · intro u hu
            rw [o.2, hn u hu, tb_pow, htk, List.any_append]
            congr 1
            simp only [List.any_cons, List.any_nil, Bool.or_false]
            exact decide_eq_decide.2 ⟨fun h => by omega, fun h => by omega⟩
      · rw [e46_1x0]
        have : q = L.length := by omega
        subst this
        rw [List.take_length] at hp hn
        unfold s46_1x0
        refine ⟨by omega, by omega, by omega, by omega, ?_⟩
        intro b2 hb2
        have hkb := Kp.new (S := []) ok hb2 { wr := true, cell := rowsOf [(.int .i64 0)] (Int.toNat (L.length : Int)) }
        have hpos : ∀ v, 1 ≤ v → v < 16 → tb pos v = decide ((v : Int) ∈ L) := by
          intro v _ hv
          rw [hp v hv]
          rw [Bool.eq_iff_iff]
          simp
        have hneg : ∀ v, 1 ≤ v → v < 16 → tb neg v = decide (-(v : Int) ∈ L) := by
          intro v h1 hv
          rw [hn v hv]
          rw [Bool.eq_iff_iff]
          simp only [List.any_eq_true, decide_eq_true_eq]
          constructor
          · rintro ⟨x, hx, rfl, _⟩; exact hx
          · intro h; exact ⟨_, h, rfl, by omega⟩
        refine loop46_2 (γ := Nat × List Int) (fun g kk v m1 => v = ((13 - g.1 : Nat) : Int) ∧ g.1 ≤ 12 ∧ kk = ((g.2.length : Nat) : Int) ∧ m1.Ok ∧ Kp [] m' m1 ∧ (∃ f, m1.blk b2 = some f ∧ f.wr = true ∧ (∀ i, i < L.length → (f.cell i).isSome = true) ∧ ∀ i x, g.2[i]? = some x → f.cell i = some (.int .i64 x)) ∧ g.2 ++ nfA L g.1 (13 - g.1) = nf L)
          (fun g _ _ => g.1) (12, []) ⟨rfl, by dsimp only; omega, rfl, ok.new hb2 _, hkb, ⟨_, Mem.new_at _ _ _, rfl, ?_, by intro i x hi; simp at hi⟩, rfl⟩ ?_
        · intro i hi
          simp [rowsOf, Nat.mod_one]; omega
        rintro ⟨r, out⟩ kk v m1 ⟨hv, hr, rfl, ok1, kp1, ⟨f, f1, f2, f3, f4⟩, hj⟩
        dsimp only at hv hr f4 hj ⊢
        have hjl := congrArg List.length hj
        rw [List.length_append, hplen] at hjl
        have done : ∀ (x : Int), out.length < L.length → ∀ K2 : Mem → Prop, (∀ m2, m2.Ok → Kp [] m' m2 → (∃ f, m2.blk b2 = some f ∧ f.wr = true ∧ (∀ i, i < L.length → (f.cell i).isSome = true) ∧ ∀ i y, (out ++ [x])[i]? = some y → f.cell i = some (.int .i64 y)) → K2 m2) →
            ckI ((out.length : Nat) : Int) (Int.toNat (L.length : Int)) fun j => st m1 b2 (0 + j) (.int .i64 x) K2 := by
          intro x hol K2 hK2
          refine ⟨by omega, by omega, ?_⟩
          simp only [Int.toNat_natCast]
          refine ⟨f, f1, f2, by rw [Nat.zero_add]; exact f3 _ hol, ?_⟩
          have hk3 : Kp [b2] m1 _ := Kp.setB (S := [b2]) f1 f2 (f.upd (0 + out.length) (.int .i64 x)) (by simp)
          refine hK2 _ (ok1.setB f1) (kp1.step hk3 ok (fun b' hb' => .inr (by simp at hb'; omega))) ⟨_, Mem.setB_at _ _ _, f2, ?_, ?_⟩
          · intro i hi
            simp only [Blk.upd]
            split
            · rfl
            · exact f3 i hi
          · intro i y hi
            rw [List.getElem?_append] at hi
            simp only [Blk.upd, Nat.zero_add]
            split at hi
            · rw [if_neg (by omega)]; exact f4 i y hi
            · have hi0 : i = out.length := by
                rcases Nat.lt_or_ge (i - out.length) 1 with h | h
                · omega
                · rw [List.getElem?_eq_none (by simpa using h)] at hi; cases hi
              subst hi0
              simp at hi
              subst hi
              rw [if_pos rfl]
        unfold s46_2
        refine ifB_le (fun hle => ?_) (fun hle => ?_)
        · obtain ⟨r, rfl⟩ : ∃ r', r = r' + 1 := ⟨r - 1, by omega⟩
          have hvn : 13 - (r + 1) = 12 - r := by omega
          rw [hvn] at hj
          simp only [nfA] at hj
          obtain ⟨u, rfl⟩ : ∃ u : Nat, v = u := ⟨v.toNat, by omega⟩
          have hu : u = 12 - r := by omega
          rw [← hu] at hj
          have hu3 : 1 ≤ u ∧ u ≤ 12 := by omega
          have hnx : 13 - r = u + 1 := by omega
          refine ⟨wrap_u64_nonneg _, ?_⟩
          rw [has16_eq hu1 (by omega), has16_eq hu2 (by omega), hpos u (by omega) (by omega), hneg u (by omega) (by omega)]
          have hw1 : IntKind.wrap .i64 ((u : Int) + 1) = ((13 - r : Nat) : Int) := by rw [wrapS u (by omega), hnx]
          refine ifB_dec (fun hp1 => ?_) (fun hp1 => ?_)
          · have hnv : nfV L u = [(u : Int)] := by unfold nfV; rw [if_pos hp1]
            rw [hnv] at hj
            have hol : out.length < L.length := by
              have := congrArg List.length hj
              rw [hplen] at this
              simp at this
              omega
            refine done (u : Int) hol _ ?_
            intro m2 ok2 kp2 hf2
            refine ⟨(r, out ++ [(u : Int)]), _, _, rfl, ⟨hw1, by dsimp only; omega, ?_, ok2, kp2, hf2, ?_⟩, by dsimp only; omega⟩
            · dsimp only; rw [wrapS out.length (by omega)]; simp
            · dsimp only; rw [hnx]; simpa using hj
          · refine ⟨wrap_u64_nonneg _, ?_⟩
            refine ifB_dec (fun hp2 => ?_) (fun hp2 => ?_)
            · have hnv : nfV L u = [-(u : Int)] := by unfold nfV; rw [if_neg hp1, if_pos hp2]
              rw [hnv] at hj
              have hol : out.length < L.length := by
                have := congrArg List.length hj
                rw [hplen] at this
                simp at this
                omega
              have hw2 : IntKind.wrap .i64 (0 - (u : Int)) = -(u : Int) := by rw [wrap_i64 (by omega) (by omega)]; omega
              rw [hw2]
              refine done (-(u : Int)) hol _ ?_
              intro m2 ok2 kp2 hf2
              refine ⟨(r, out ++ [-(u : Int)]), _, _, rfl, ⟨hw1, by dsimp only; omega, ?_, ok2, kp2, hf2, ?_⟩, by dsimp only; omega⟩
              · dsimp only; rw [wrapS out.length (by omega)]; simp
              · dsimp only; rw [hnx]; simpa using hj
            · have hnv : nfV L u = [] := by unfold nfV; rw [if_neg hp1, if_neg hp2]
              rw [hnv] at hj
              refine ⟨(r, out), _, _, rfl, ⟨hw1, by dsimp only; omega, rfl, ok1, kp1, ⟨f, f1, f2, f3, f4⟩, ?_⟩, by dsimp only; omega⟩
              dsimp only; rw [hnx]; simpa using hj
        · rw [e46_2x2]
          have : r = 0 := by omega
          subst this
          simp only [nfA, List.append_nil] at hj
          subst hj
          unfold s46_2x2
          intro okx
          have own : OwnI m1 (some ⟨b2, 0, none⟩) (nf L).length (nf L).length (nf L) := OwnI_of_fill f1 f2 rfl f4
          have hlen2 : Int.toNat (L.length : Int) = (nf L).length := by rw [hplen]; simp
          rcases own.ice with ⟨b3, ha3, hfz⟩ | ⟨ha, _, _⟩
          · simp only [Option.some.injEq, Addr.mk.injEq] at ha3
            obtain ⟨rfl, _, _⟩ := ha3
            refine ⟨m1.ice b2, Mem.ice_le ok1 b2, rfl, fun ok5 => ?_⟩
            rw [hlen2]
            exact hK1 hl _ _ _ _ ok5 (kp1.ice ok (.inr hb2)) hfz
          · cases ha

def gIds (w : Wt) : Nat → Nat → List Int
  | 0, _ => []
  | n + 1, id => if (w id).st ≠ 0 then (id : Int) :: gIds w n (id + 1) else gIds w n (id + 1)
theorem gIds_len (w : Wt) : ∀ (n id : Nat), (gIds w n id).length ≤ n
  | 0, id => by simp [gIds]
  | n + 1, id => by
    have := gIds_len w n (id + 1)
    simp only [gIds]
    split
    · simp; omega
    · omega
theorem ids_spec {b t : Nat} {w : Wt} {K : Value → Mem → Prop} {m : Mem} (h : WAt m b t w) (hK : ∀ a n c m', m'.Ok → Kp [] m m' → FzI m' a n (gIds w 52 0) → K (.slice a n c) m') : callOK Tryz.prog W0 127 [ptr b 0] K m := by
  refine callOK_ice fun ok => call127 ?_
  have hbl := h.lt ok
  obtain ⟨g, c, h1, h2, h3⟩ := h
  have hL := gIds_len w 52 0
  generalize hLL : gIds w 52 0 = L at hL hK
  unfold s127
  refine loop127_1 (γ := Nat) (fun k n i m' => m' = m ∧ i = k ∧ k ≤ 52 ∧ 0 ≤ n ∧ n + ((gIds w (52 - k) k).length : Nat) = (L.length : Nat)) (fun k _ _ => 52 - k) 0 ⟨rfl, rfl, by omega, by omega, by rw [← hLL]; simp⟩ ?_
  rintro k n i m' ⟨rfl, rfl, hk, hn, hj⟩
  unfold s127_1
  refine ifB_lt (fun hlt => ?_) (fun hlt => ?_)
  · have ek : 52 - k = (52 - (k + 1)) + 1 := by omega
    rw [ek] at hj
    simp only [gIds] at hj
    refine ⟨_, h1.used, ?_⟩
    dsimp only
    rw [goHas_eq h3.used.1 (by omega), h3.used.2 _ (by omega)]
    refine ifB_dec (fun hs => ?_) (fun hs => ?_)
    · rw [if_pos hs] at hj
      simp only [List.length_cons] at hj
      refine ⟨k + 1, _, _, rfl, ⟨rfl, wrapS k (by omega), by omega, ?_, ?_⟩, by omega⟩
      · rw [wrap_i64 (by omega) (by omega)]; omega
      · rw [wrap_i64 (by omega) (by omega)]; omega
    · rw [if_neg hs] at hj
      exact ⟨k + 1, _, _, rfl, ⟨rfl, wrapS k (by omega), by omega, by omega, hj⟩, by omega⟩
  · rw [e127_1x0]
    have : k = 52 := by omega
    subst this
    simp only [Nat.sub_self, gIds, List.length_nil] at hj
    obtain rfl : n = (L.length : Nat) := by omega
    unfold s127_1x0
    refine ifB_eq (fun h0 => ?_) (fun h0 => ?_)
    · intro _
      have hnil : L = [] := List.eq_nil_of_length_eq_zero (by omega)
      subst hnil
      exact ⟨m', Mem.Le.rfl' ok, rfl, fun ok' => hK none 0 0 m' ok' (Kp.refl _ _) (Elt.fz.nil _)⟩
    · refine ⟨by omega, by omega, by omega, by omega, ?_⟩
      intro b2 hb2
      have hkb := Kp.new (S := []) ok hb2 { wr := true, cell := rowsOf [(.int .i64 0)] (Int.toNat (L.length : Int)) }
      refine loop127_2 (γ := Nat × List Int) (fun g kk v m1 => v = ((52 - g.1 : Nat) : Int) ∧ g.1 ≤ 52 ∧ kk = ((g.2.length : Nat) : Int) ∧ m1.Ok ∧ Kp [] m' m1 ∧ (∃ f, m1.blk b2 = some f ∧ f.wr = true ∧ (∀ i, i < L.length → (f.cell i).isSome = true) ∧ ∀ i x, g.2[i]? = some x → f.cell i = some (.int .i64 x)) ∧ g.2 ++ gIds w g.1 (52 - g.1) = L)
        (fun g _ _ => g.1) (52, []) ⟨rfl, by dsimp only; omega, rfl, ok.new hb2 _, hkb, ⟨_, Mem.new_at _ _ _, rfl, ?_, by intro i x hi; simp at hi⟩, by simpa using hLL⟩ ?_
      · intro i hi
        simp [rowsOf, Nat.mod_one]; omega
      rintro ⟨r, out⟩ kk v m1 ⟨hv, hr, rfl, ok1, kp1, ⟨f, f1, f2, f3, f4⟩, hj⟩
      dsimp only at hv hr f4 hj ⊢
      unfold s127_2
      refine ifB_lt (fun hle => ?_) (fun hle => ?_)
      · obtain ⟨r, rfl⟩ : ∃ r', r = r' + 1 := ⟨r - 1, by omega⟩
        obtain ⟨u, rfl⟩ : ∃ u : Nat, v = u := ⟨v.toNat, by omega⟩
        have hu : 52 - (r + 1) = u := by omega
        have hnx : 52 - r = u + 1 := by omega
        rw [hu] at hj
        simp only [gIds] at hj
        refine ⟨_, (h1.keep kp1 (by simp)).used, ?_⟩
        dsimp only
        rw [goHas_eq h3.used.1 (by omega), h3.used.2 _ (by omega)]
        have hw1 : IntKind.wrap .i64 ((u : Int) + 1) = ((52 - r : Nat) : Int) := by rw [wrapS u (by omega), hnx]
        refine ifB_dec (fun hs => ?_) (fun hs => ?_)
        · rw [if_pos hs] at hj
          have hol : out.length < L.length := by
            have := congrArg List.length hj
            simp at this
            omega
          refine ⟨by omega, by omega, ?_⟩
          simp only [Int.toNat_natCast]
          refine ⟨f, f1, f2, by rw [Nat.zero_add]; exact f3 _ hol, ?_⟩
          have hk3 : Kp [b2] m1 _ := Kp.setB (S := [b2]) f1 f2 (f.upd (0 + out.length) (.int .i64 u)) (by simp)
          refine ⟨(r, out ++ [(u : Int)]), _, _, rfl, ⟨hw1, by dsimp only; omega, ?_, ok1.setB f1, kp1.step hk3 ok (fun b' hb' => .inr (by simp at hb'; omega)), ⟨_, Mem.setB_at _ _ _, f2, ?_, ?_⟩, ?_⟩, by dsimp only; omega⟩
          · dsimp only; rw [wrapS out.length (by omega)]; simp
          · intro i hi
            simp only [Blk.upd]
            split
            · rfl
            · exact f3 i hi
          · intro i y hi
            dsimp only at hi
            rw [List.getElem?_append] at hi
            simp only [Blk.upd, Nat.zero_add]
            split at hi
            · rw [if_neg (by omega)]; exact f4 i y hi
            · have hi0 : i = out.length := by
                rcases Nat.lt_or_ge (i - out.length) 1 with h | h
                · omega
                · rw [List.getElem?_eq_none (by simpa using h)] at hi; cases hi
              subst hi0
              simp at hi
              subst hi
              rw [if_pos rfl]
          · dsimp only; rw [hnx]; simpa using hj
        · rw [if_neg hs] at hj
          refine ⟨(r, out), _, _, rfl, ⟨hw1, by dsimp only; omega, rfl, ok1, kp1, ⟨f, f1, f2, f3, f4⟩, ?_⟩, by dsimp only; omega⟩
          dsimp only; rw [hnx]; exact hj
      · rw [e127_2x2]
        have : r = 0 := by omega
        subst this
        simp only [gIds, List.append_nil] at hj
        subst hj
        unfold s127_2x2
        intro okx
        have own : OwnI m1 (some ⟨b2, 0, none⟩) out.length out.length out := OwnI_of_fill f1 f2 rfl f4
        rcases own.ice with ⟨b3, ha3, hfz⟩ | ⟨ha, _, _⟩
        · simp only [Option.some.injEq, Addr.mk.injEq] at ha3
          obtain ⟨rfl, _, _⟩ := ha3
          exact ⟨m1.ice b2, Mem.ice_le ok1 b2, rfl, fun ok5 => hK _ _ _ _ ok5 (kp1.ice ok (.inr hb2)) hfz⟩
        · cases ha
end Go.Proofs.Qxb6500974aGreat
