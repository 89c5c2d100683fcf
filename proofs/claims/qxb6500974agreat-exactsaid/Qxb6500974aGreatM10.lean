import Derived.Test.Qxb6500974aGreatM9
set_option linter.all false
set_option linter.unusedSimpArgs false
set_option linter.unusedVariables false
namespace Go.Proofs.Qxb6500974aGreat
open Go.Eng
variable {W0 : World}

def gAt (c : List Int) : Nat → List (List Int) → Option Nat
  | _, [] => none
  | k, x :: xs => if x = c then some k else gAt c (k + 1) xs
def gMC : Nat → List (List Int) → List (Bool × List Int) → Int × Int × Int
  | i, store, [] => if store.any (fun l => decide (l.length = 0)) = true then (0, 0, 0) else (20, 2, i)
  | i, store, r :: rs =>
    if r.1 = true then (match gAt r.2 0 store with | none => (19, 2, i) | some k => gMC (i + 1) (store.eraseIdx k) rs)
    else if gRup store r.2 = false then (18, 2, i)
    else if 64 ≤ store.length then (12, 2, i)
    else gMC (i + 1) (store ++ [r.2]) rs
def gMCheck (tp tq : List UInt8) : Int × Int × Int :=
  if (gProblem tp).2.1 ≠ 0 then ((gProblem tp).2.1, 0, (gProblem tp).2.2)
  else if (gParse tq).1 ≠ 0 then ((gParse tq).1, 1, (gParse tq).2.1)
  else gMC 0 (gProblem tp).1 (gRows (gParse tq).2.2)
theorem gAt_range (c : List Int) : ∀ (L : List (List Int)) (k j : Nat), gAt c k L = some j → k ≤ j ∧ j < k + L.length
  | [], k, j, h => by simp [gAt] at h
  | x :: xs, k, j, h => by
    simp only [gAt] at h
    split at h
    · cases h; simp
    · have := gAt_range c xs _ _ h
      simp; omega
theorem stl3 {m : Mem} {b : Nat} {x0 x1 x2 : Int} {K : Value → Mem → Prop} (ok : m.Ok) (h : BlkN m b 3)
    (hK : ∀ m', m'.Ok → Kp [b] m m' → K (.agg #[(.int .i64 x0), (.int .i64 x1), (.int .i64 x2)]) m') :
    stL m b 0 [(.int .i64 x0), (.int .i64 x1), (.int .i64 x2)] fun m1 =>
      ldInt .i64 m1 b 0 fun y0 => ldInt .i64 m1 b 1 fun y1 => ldInt .i64 m1 b 2 fun y2 => K (.agg #[(.int .i64 y0), (.int .i64 y1), (.int .i64 y2)]) m1 := by
  refine stL_put ok h (by simp) (by intro v hv; simp at hv; rcases hv with rfl | rfl | rfl <;> rfl) (by simp) ?_
  intro m' ok' kp' row' _
  obtain ⟨r0, r1, r2, _⟩ := row'
  exact ⟨_, r0, _, r1, _, r2, hK m' ok' kp'⟩
theorem eraseIdx_take_lt {α : Type} (l : List α) (k j : Nat) (h : j < k) (hk : k < l.length) (d : α) : (l.take (k + 1)).eraseIdx j = (l.take k).eraseIdx j ++ [l.getD k d] := by
  rw [take_succ_getD hk d, List.eraseIdx_append_of_lt_length (by simp; omega)]
theorem eraseIdx_take_eq {α : Type} (l : List α) (k : Nat) (hk : k < l.length) : (l.take (k + 1)).eraseIdx k = l.take k := by
  rw [take_succ_getD hk l[k], List.eraseIdx_append_of_length_le (by simp; omega)]
  simp [Nat.min_eq_left (Nat.le_of_lt hk)]
theorem eraseIdx_take_gt {α : Type} (l : List α) (k j : Nat) (h : k < j) (hk : k < l.length) (d : α) : (l.take (k + 1)).eraseIdx j = (l.take k).eraseIdx j ++ [l.getD k d] := by
  rw [List.eraseIdx_of_length_le (by simp; omega), List.eraseIdx_of_length_le (by simp; omega), take_succ_getD hk d]

structure McI (m0 : Mem) (p k b : Nat) (m : Mem) (sa : Option Addr) (sn sc : Nat) (ra : Option Addr) (R : List (Bool × List Int)) (store : List (List Int)) : Prop where
  ok : m.Ok
  kp : Kp [p] m0 m
  pm : PM m p
  bk : BlkN m b 3
  fz : FzR m ra R.length R
  own : OwnII m sa sn sc store
  ns : InS [] m0 (blkOf sa)
  db : b ∉ blkOf sa
theorem s88_2_exit {C : CallT} {t6 : Nat} {sa ra ca : Option Addr} {sn sc rn rc cn cc : Nat} {i12 at14 : Int} {j : Nat} {Kt : Exit → Fr → Mem → Prop} {m : Mem} (h : ¬ (j < sn ∧ at14 < 0))
    (hK : Kt (.exit 2) [(6, (ptr t6 0)), (7, (.slice sa sn sc)), (11, (.slice ra rn rc)), (12, (.int .i64 i12)), (13, (.slice ca cn cc)), (14, (.int .i64 at14)), (15, (.int .i64 j))] m) : s88_2 C t6 sa sn sc ra rn rc i12 ca cn cc at14 j Kt m := by
  unfold s88_2
  refine ifB_lt (fun h1 => ?_) (fun _ => hK)
  exact ifB_lt (fun h2 => absurd ⟨by omega, h2⟩ h) (fun _ => hK)
theorem mcheck_spec {k p : Nat} {tp tq : ByteArray} {r : Int × Int × Int} {K : Value → Mem → Prop} {m : Mem} (hp : PM m p) (hs : HoldsP m k p) (hr : gMCheck (bts tp) (bts tq) = r)
    (hK : ∀ m', m'.Ok → Kp [p] m m' → PM m' p → K (.agg #[(.int .i64 r.1), (.int .i64 r.2.1), (.int .i64 r.2.2)]) m') : callOK Tryz.prog W0 88 [ptr k 0, .string tp, .string tq] K m := by
  refine callOK_ok fun ok => call88 ?_
  have hpl := hp.lt ok
  have hsl := hs.lt ok
  have hgP := gProblem_good (bts tp)
  have hgR := gRows_good (bts tq)
  have hg0 := gParse_good (bts tq)
  unfold s88
  have hz : zeroBlk Tryz.prog 41 = Blk.ofList [(.int .i64 0), (.int .i64 0), (.int .i64 0)] := by kernel_rfl
  have hz2 : zeroBlk Tryz.prog 73 = Blk.ofList [.int .i64 0, .int .i64 0, .slice none 0 0] := by kernel_rfl
  rw [hz, hz2]
  intro b hb
  have hk1 := Kp.new (S := []) ok hb (Blk.ofList [(.int .i64 0), (.int .i64 0), (.int .i64 0)])
  have bn1 : BlkN (m.new b (Blk.ofList [(.int .i64 0), (.int .i64 0), (.int .i64 0)])) b 3 := BlkN.new b (by simp)
  have ok1 := ok.new hb (Blk.ofList [(.int .i64 0), (.int .i64 0), (.int .i64 0)])
  generalize m.new b (Blk.ofList [(.int .i64 0), (.int .i64 0), (.int .i64 0)]) = m1 at hk1 bn1 ok1
  have hs1 := hs.keep hk1 (by simp)
  have hp1 := hp.keep hk1 (by simp)
  have hlt1 := bn1.lt ok1
  refine ⟨_, hs1.1, ?_⟩
  unfold gMCheck at hr
  refine problem_spec hp1 rfl ?_
  intro a2 n2 c2 m2 ok2 kp2 pm2 own2 in2
  refine ⟨_, _, _, _, _, rfl, ?_⟩
  have nbp : b ∉ [p] := by simp; omega
  have nsp : k ∉ [p] := by simpa using hs.2
  have k2 : Kp [p] m m2 := hk1.of_nil.trans kp2
  have bn2 := bn1.keep kp2 nbp
  have hs2 := hs1.keep kp2 nsp
  have wr : ∀ {m3 m4 : Mem}, Kp [p] m m3 → Kp [b] m3 m4 → Kp [p] m m4 := fun h h' => h.step h' ok (fun b' hb' => .inr (by simp at hb'; omega))
  have npb : p ∉ [b] := by simp; omega
  have t1 := hk1.top
  generalize gProblem (bts tp) = P at hr own2 hgP ⊢
  refine ifB_ne (fun hne => ?_) (fun he => ?_)
  · rw [if_pos hne] at hr
    subst hr
    refine stl3 ok2 bn2 ?_
    intro m3 ok3 kp3
    exact hK m3 ok3 (wr k2 kp3) (pm2.keep kp3 npb)
  · rw [if_neg (by simpa using he)] at hr
    refine ⟨_, hs2.1, ?_⟩
    refine mparse_spec pm2 rfl ?_
    intro a3 n3 c3 m3 ok3 kp3 pm3 fz3
    refine ⟨_, _, _, _, _, rfl, ?_⟩
    generalize gParse (bts tq) = q at hr fz3 hgR hg0 ⊢
    have npa2 : p ∉ blkOf a2 := fun h0 => by
      rcases in2 p h0 with h | h
      · cases h
      · omega
    have own3 : OwnII m3 a2 n2 c2 P.1 := own2.keep kp3 (fun x hx h0 => by simp at h0; subst h0; exact npa2 hx)
    have bn3 := bn2.keep kp3 nbp
    have k3 := k2.trans kp3
    intro b4 hb4
    have hk4 := Kp.new (S := []) ok3 hb4 (Blk.ofList [.int .i64 0, .int .i64 0, .slice none 0 0])
    have tp3 := k3.top
    have hlt3 := bn3.lt ok3
    refine stL_put (n := 3) (ok3.new hb4 _) (BlkN.new b4 (by simp)) (by simp) (by intro v hv; simp at hv; rcases hv with rfl | rfl | rfl <;> rfl) (by simp) ?_
    intro m5 ok5 kp5 row5 _
    have k35 : Kp [] m3 m5 := hk4.step kp5 ok3 (fun b' hb' => .inr (by simp at hb'; omega))
    have k5 := k3.trans k35.of_nil
    have pm5 := pm3.keep k35 (by simp)
    have bn5 := bn3.keep k35 (by simp)
    refine ⟨_, row5.1, ?_⟩
    refine ifB_ne (fun hne => ?_) (fun he2 => ?_)
    · rw [if_pos hne] at hr
      subst hr
      refine ⟨_, row5.1, _, row5.2.1, ?_⟩
      refine stl3 ok5 bn5 ?_
      intro m6 ok6 kp6
      exact hK m6 ok6 (wr k5 kp6) (pm5.keep kp6 npb)
    · rw [if_neg (by simpa using he2)] at hr
      refine ⟨_, _, _, row5.2.2.1, ?_⟩
      have fz5 := fz3.keep k35
      refine rows_spec fz5.sl (by omega) rfl ?_
      intro a6 c6 m6 ok6 kp6 fz6
      refine ⟨_, _, _, rfl, ?_⟩
      generalize gRows q.2.2 = R at hr fz6 hgR ⊢
      have dba2 : b ∉ blkOf a2 := fun h0 => by
        rcases in2 b h0 with h | h
        · cases h
        · omega
      have in2' : InS [] m (blkOf a2) := fun x hx => .inr (by rcases in2 x hx with h | h; cases h; omega)
      have inv6 : McI m p k b m6 a2 n2 c2 a6 R P.1 := ⟨ok6, k5.trans kp6.of_nil, pm5.keep kp6 (by simp), bn5.keep kp6 (by simp), fz6, (own3.keep0 k35).keep0 kp6, in2', dba2⟩
      have hRl : R.length ≤ 20971520 := hgR.1

      have bad : ∀ (e w i : Int) (m7 : Mem), r = (e, w, i) → m7.Ok → Kp [p] m m7 → PM m7 p → BlkN m7 b 3 → stL m7 b 0 [(.int .i64 e), (.int .i64 w), (.int .i64 i)] fun m1 =>
          ldInt .i64 m1 b 0 fun y0 => ldInt .i64 m1 b 1 fun y1 => ldInt .i64 m1 b 2 fun y2 => K (.agg #[(.int .i64 y0), (.int .i64 y1), (.int .i64 y2)]) m1 := by
        intro e w i m7 hre ok7 kp7 pm7 bn7
        refine stl3 ok7 bn7 ?_
        intro m8 ok8 kp8
        subst hre
        exact hK m8 ok8 (wr kp7 kp8) (pm7.keep kp8 npb)
      refine loop88_1 (γ := Nat × List (List Int)) (fun g sa sn sc i m' => i = g.1 ∧ g.1 ≤ R.length ∧ McI m p k b m' sa sn sc a6 R g.2 ∧ (g.2.length ≤ 64 ∧ ∀ l ∈ g.2, (∀ x ∈ l, -12 ≤ x ∧ x ≤ 13) ∧ l.length ≤ 20971520) ∧ gMC g.1 g.2 (R.drop g.1) = r) (fun g _ _ _ _ => R.length - g.1) (0, P.1)
        ⟨rfl, by dsimp only; omega, inv6, ⟨by dsimp only; omega, hgP.2⟩, by simpa using hr⟩ ?_
      rintro ⟨i, store⟩ sa sn sc i12 m7 ⟨rfl, hi, inv, hst, hj⟩
      dsimp only at hi inv hst hj ⊢
      have es := inv.own.len
      unfold s88_1
      refine ifB_lt (fun hlt => ?_) (fun hlt => ?_)
      · have hil : i < R.length := by omega
        rw [drop_cons hil (false, [])] at hj
        simp only [gMC] at hj
        have hrg := hgR.2 _ (mem_getD hil (false, []))
        refine inv.fz.sl.getR (by omega) (by omega) fun _ _ _ la ln lc hl => ?_
        simp only [Int.toNat_natCast] at hl
        refine inv.fz.sl.getD (by omega) (by omega) fun _ _ _ => ?_
        simp only [Int.toNat_natCast]
        generalize R.getD i (false, []) = row at hj hrg hl ⊢
        refine ifB_of (fun hd => ?_) (fun hd => ?_)
        · rw [if_pos hd] at hj
          refine loop88_2 (γ := Nat) (fun j at14 j15 m' => m' = m7 ∧ j15 = j ∧ j ≤ store.length ∧ ((at14 = -1 ∧ gAt row.2 0 store = gAt row.2 j (store.drop j)) ∨ (0 ≤ at14 ∧ gAt row.2 0 store = some at14.toNat))) (fun j _ _ => store.length - j) 0 ⟨rfl, rfl, by omega, .inl ⟨rfl, rfl⟩⟩ ?_
          rintro j at14 j15 m' ⟨rfl, rfl, hjs, hat⟩
          by_cases hcont : j < store.length ∧ at14 = -1
          · obtain ⟨hj1, hj2⟩ := hcont
            subst hj2
            have hat' : gAt row.2 0 store = gAt row.2 j (store.drop j) := by
              rcases hat with h | h
              · exact h.2
              · have hF : False := by omega
                cases hF
            rw [drop_cons hj1 []] at hat'
            simp only [gAt] at hat'
            unfold s88_2
            refine ifB_lt (fun hlt2 => ?_) (fun hlt2 => ?_)
            · refine ifB_lt (fun hlt3 => ?_) (fun hlt3 => ?_)
              · refine inv.own.sl.getL (by omega) (by omega) fun _ _ _ xa xn xc hx => ?_
                simp only [Int.toNat_natCast] at hx
                refine sameInts_spec hx.sl hl.sl (by have := (hst.2 _ (mem_getD hj1 [])).2; omega) ⟨_, rfl, ?_⟩
                refine ifB_dec (fun he => ?_) (fun he => ?_)
                · rw [if_pos he] at hat'
                  exact ⟨j + 1, _, _, rfl, ⟨rfl, wrapS j (by omega), by omega, .inr ⟨by omega, by simpa using hat'⟩⟩, by omega⟩
                · rw [if_neg he] at hat'
                  exact ⟨j + 1, _, _, rfl, ⟨rfl, wrapS j (by omega), by omega, .inl ⟨rfl, hat'⟩⟩, by omega⟩
              · have hF : False := by omega
                cases hF
            · have hF : False := by omega
              cases hF
          ·
            have hbound : at14 < 0 → at14 = -1 := by
              intro h0
              rcases hat with h | h
              · exact h.1
              · omega
            refine s88_2_exit (fun h0 => hcont ⟨by omega, hbound h0.2⟩) ?_
            rw [e88_2x2]
            unfold s88_2x2
            refine ifB_lt (fun hneg => ?_) (fun hneg => ?_)
            · have hno : gAt row.2 0 store = none := by
                rcases hat with h | h
                · have : j = store.length := by
                    rcases Nat.lt_or_ge j store.length with h1 | h1
                    · exact absurd ⟨h1, h.1⟩ hcont
                    · omega
                  subst this
                  rw [h.2, List.drop_length]; rfl
                · omega
              rw [hno] at hj
              refine stL_mono (bad 19 2 (i : Int) m' hj.symm inv.ok inv.kp inv.pm inv.bk) ?_
              intro m8 h8
              rw [e88_1r]
              exact h8
            · have hso : gAt row.2 0 store = some at14.toNat := by
                rcases hat with h | h
                · omega
                · exact h.2
              have hrng := gAt_range _ _ _ _ hso
              rw [hso] at hj
              dsimp only at hj
              refine loop88_4 (γ := Nat) (fun q xa xn xc q17 m8 => q17 = q ∧ q ≤ store.length ∧ McI m p k b m8 sa sn sc a6 R store ∧ OwnII m8 xa xn xc ((store.take q).eraseIdx at14.toNat) ∧ InS [] m' (blkOf xa) ∧ m'.top ≤ m8.top) (fun q _ _ _ _ => store.length - q) 0
                ⟨rfl, by omega, inv, by simpa using Elt.own.nil m', InS.nil _ _, Nat.le_refl _⟩ ?_
              rintro q xa xn xc q17 m8 ⟨rfl, hq, inv8, own8, in8, htop⟩
              have e8 := own8.len
              have hel : ((store.take q).eraseIdx at14.toNat).length ≤ 64 := by
                have := (List.eraseIdx_sublist (store.take q) at14.toNat).length_le
                simp only [List.length_take] at this
                omega
              have hnx : ∀ x, x ∈ blkOf xa → x ∉ blkOf sa ∧ x ≠ b ∧ x ≠ p := by
                intro x hx
                have l1 := inv.own.lt inv.ok
                have l2 := inv.bk.lt inv.ok
                have l3 := inv.pm.lt inv.ok
                rcases in8 x hx with h | h
                · cases h
                · exact ⟨fun h0 => by have := l1 x h0; omega, by omega, by omega⟩
              have tpi := inv.kp.top
              unfold s88_4
              refine ifB_lt (fun hlt2 => ?_) (fun hlt2 => ?_)
              · have hql : q < store.length := by omega
                refine ifB_ne (fun hqa => ?_) (fun hqa => ?_)
                · refine inv8.own.sl.getL (by omega) (by omega) fun _ _ _ ya yn yc hy => ?_
                  simp only [Int.toNat_natCast] at hy
                  refine Elt.app1 (E := EL) inv8.ok own8 (x := store.getD q []) ⟨_, _, _, rfl, hy⟩ rfl rfl (by omega) (by omega) ?_
                  intro a9 c9 m9 ok9 kp9 own9 in9
                  refine ⟨q + 1, _, _, _, _, rfl, ⟨wrapS q (by omega), by omega, ⟨ok9, inv8.kp.step kp9 ok ?_, inv8.pm.keep kp9 (fun h0 => (hnx p h0).2.2 rfl), inv8.bk.keep kp9 (fun h0 => (hnx b h0).2.1 rfl), inv8.fz.keep kp9, inv8.own.keep kp9 (fun x hx h0 => (hnx x h0).1 hx), inv8.ns, inv8.db⟩, ?_, ?_, ?_⟩, by omega⟩
                  · intro x hx
                    rcases in8 x hx with h | h
                    · cases h
                    · exact .inr (by omega)
                  · rcases Nat.lt_or_ge at14.toNat q with h | h
                    · rw [eraseIdx_take_lt store q _ h hql []]; exact own9
                    · rw [eraseIdx_take_gt store q _ (by omega) hql []]; exact own9
                  · intro x hx
                    rcases in9 x hx with h | h
                    · exact in8 x h
                    · right
                      omega
                  · have := kp9.top; omega
                · have hqe : at14.toNat = q := by omega
                  refine ⟨q + 1, _, _, _, _, rfl, ⟨wrapS q (by omega), by omega, inv8, ?_, in8, htop⟩, by omega⟩
                  rw [hqe, eraseIdx_take_eq store q hql]
                  rw [hqe, List.eraseIdx_of_length_le (by simp; omega)] at own8
                  exact own8
              · rw [e88_4x4]
                unfold s88_4x4
                have : q = store.length := by omega
                subst this
                rw [List.take_length] at own8
                refine ⟨(i + 1, store.eraseIdx at14.toNat), _, _, _, _, rfl, ⟨wrapS i (by omega), by dsimp only; omega, ⟨inv8.ok, inv8.kp, inv8.pm, inv8.bk, inv8.fz, own8, ?_, fun h0 => (hnx b h0).2.1 rfl⟩, ⟨?_, ?_⟩, hj⟩, by dsimp only; omega⟩
                · intro x hx
                  rcases in8 x hx with h | h
                  · cases h
                  · exact .inr (by omega)
                · rw [List.take_length] at hel; exact hel
                · intro l hl'
                  exact hst.2 l ((List.eraseIdx_sublist store at14.toNat).subset hl')
        · rw [if_neg (by rw [hd]; decide)] at hj
          have hsb : SmallB store := ⟨⟨by omega, fun l hl' => by have := (hst.2 l hl').2; omega⟩, fun l hl' x hx => by have := (hst.2 l hl').1 x hx; unfold LitB; omega⟩
          refine rup_spec inv.own.sl hl.sl hsb (by omega) (fun x hx => by have := hrg.1 x hx; unfold LitB; omega) ?_
          intro m8 ok8 kp8
          refine ⟨_, rfl, ?_⟩
          have k8 := inv.kp.trans kp8.of_nil
          have pm8 := inv.pm.keep kp8 (by simp)
          have bk8 := inv.bk.keep kp8 (by simp)
          refine ifB_not (fun hru => ?_) (fun hru => ?_)
          · rw [if_pos hru] at hj
            refine stL_mono (bad 18 2 (i : Int) m8 hj.symm ok8 k8 pm8 bk8) ?_
            intro m9 h9
            rw [e88_1r]
            exact h9
          · rw [if_neg (by rw [hru]; decide)] at hj
            refine ifB_ge (fun h64 => ?_) (fun h64 => ?_)
            · rw [if_pos (by omega)] at hj
              refine stL_mono (bad 12 2 (i : Int) m8 hj.symm ok8 k8 pm8 bk8) ?_
              intro m9 h9
              rw [e88_1r]
              exact h9
            · rw [if_neg (by omega)] at hj
              refine Elt.app1 (E := EL) ok8 (inv.own.keep0 kp8) (x := row.2) ⟨_, _, _, rfl, hl.keep kp8⟩ rfl rfl (by omega) (by omega) ?_
              intro a9 c9 m9 ok9 kp9 own9 in9
              have nps : p ∉ blkOf sa := fun h0 => by
                rcases inv.ns p h0 with h | h
                · cases h
                · omega
              refine ⟨(i + 1, _), _, _, _, _, rfl, ⟨wrapS i (by omega), by dsimp only; omega, ⟨ok9, k8.step kp9 ok (inv.ns.mono (by simp)), pm8.keep kp9 nps, bk8.keep kp9 inv.db, (inv.fz.keep kp8).keep kp9, own9, inv.ns.trans in9 k8.top, ?_⟩, ⟨by simp; omega, ?_⟩, hj⟩, by dsimp only; omega⟩
              · intro h0
                rcases in9 b h0 with h | h
                · exact inv.db h
                · have := bk8.lt ok8; omega
              · intro l hl'
                rcases List.mem_append.1 hl' with h | h
                · exact hst.2 l h
                · simp at h; subst h; exact hrg
      · rw [e88_1x0]
        have : i = R.length := by omega
        subst this
        rw [List.drop_length] at hj
        simp only [gMC] at hj
        unfold s88_1x0
        refine loop88_3 (γ := Nat) (fun q j18 m' => m' = m7 ∧ j18 = q ∧ q ≤ store.length ∧ (store.drop q).any (fun l => decide (l.length = 0)) = store.any (fun l => decide (l.length = 0))) (fun q _ => store.length - q) 0 ⟨rfl, rfl, by omega, rfl⟩ ?_
        rintro q j18 m' ⟨rfl, rfl, hq, hany⟩
        unfold s88_3
        refine ifB_lt (fun hlt2 => ?_) (fun hlt2 => ?_)
        · have hql : q < store.length := by omega
          rw [drop_cons hql [], List.any_cons] at hany
          refine inv.own.sl.getL (by omega) (by omega) fun _ _ _ ya yn yc hy => ?_
          simp only [Int.toNat_natCast] at hy
          have ey := hy.len
          refine ifB_eq (fun h0 => ?_) (fun h0 => ?_)
          · have h1 : decide ((store.getD q []).length = 0) = true := by rw [← ey]; simp; omega
            rw [h1, Bool.true_or] at hany
            rw [if_pos hany.symm] at hj
            refine stL_mono (bad 0 0 0 m' hj.symm inv.ok inv.kp inv.pm inv.bk) ?_
            intro m9 h9
            rw [e88_3r]
            exact h9
          · have h1 : decide ((store.getD q []).length = 0) = false := by rw [← ey]; simp; omega
            rw [h1, Bool.false_or] at hany
            exact ⟨q + 1, _, rfl, ⟨rfl, wrapS q (by omega), by omega, hany⟩, by omega⟩
        · rw [e88_3x6]
          have : q = store.length := by omega
          subst this
          rw [List.drop_length, List.any_nil] at hany
          rw [if_neg (by rw [← hany]; decide)] at hj
          unfold s88_3x6
          exact bad 20 2 _ m' hj.symm inv.ok inv.kp inv.pm inv.bk
end Go.Proofs.Qxb6500974aGreat
