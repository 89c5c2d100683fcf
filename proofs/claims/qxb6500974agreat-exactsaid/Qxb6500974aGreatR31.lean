import Derived.Test.Qxb6500974aGreatR30
import Derived.KernelRfl
set_option linter.all false
set_option linter.unusedSimpArgs false
set_option linter.unusedVariables false
namespace Go.Proofs.Qxb6500974aGreat
open Go.Eng
variable {W0 : World}

theorem zero26 : zeroBlk Tryz.prog 26 = Blk.ofList [(.int .i64 0), (.int .i64 0), (.int .i64 0), (.int .i64 0), (.string (ByteArray.mk #[])), (.string (ByteArray.mk #[]))] := by kernel_rfl
theorem zero58 : zeroBlk Tryz.prog 58 = Blk.ofList [(.string (ByteArray.mk #[])), (.string (ByteArray.mk #[]))] := by kernel_rfl
theorem zero62 : zeroBlk Tryz.prog 62 = Blk.ofList [(.slice none 0 0), (.slice none 0 0)] := by kernel_rfl
theorem one6 {x0 x1 x2 x3 : Int} {x4 x5 : ByteArray} : ∀ v ∈ [(Value.int .i64 x0), (.int .i64 x1), (.int .i64 x2), (.int .i64 x3), (.string x4), (.string x5)], oneC v = true := by
  intro v hv; simp at hv; rcases hv with rfl | rfl | rfl | rfl | rfl | rfl <;> rfl
theorem one2 {x4 x5 : ByteArray} : ∀ v ∈ [(Value.string x4), (.string x5)], oneC v = true := by
  intro v hv; simp at hv; rcases hv with rfl | rfl <;> rfl
def Hist (ops : List Op) (i : Nat) (W : Obs) (τs : List Told) : Prop := ∀ j o, j < i → ops[j]? = some o → ∃ τ, τs[j]? = some τ ∧ ToldOK W j τ (csAt ops j) o
theorem Hist.next {ops : List Op} {i : Nat} {W W' : Obs} {τs τs' : List Told} {o : Op} {τ : Told} (h : Hist ops i W τs) (hW : ∀ j, j < i → W' (5, j) = W (5, j)) (hτ : ∀ j, j < i → τs'[j]? = τs[j]?) (ho : ops[i]? = some o) (h1 : τs'[i]? = some τ) (h2 : ToldOK W' i τ (csAt ops i) o) : Hist ops (i + 1) W' τs' := by
  intro j o' hj ho'
  by_cases he : j = i
  · subst he
    rw [ho] at ho'
    cases ho'
    exact ⟨τ, h1, h2⟩
  · obtain ⟨τ', g1, g2⟩ := h j o' (by omega) ho'
    refine ⟨τ', by rw [hτ j (by omega)]; exact g1, ⟨fun a b => ?_, g2.chk, g2.lst⟩⟩
    have := g2.sol a b
    exact ⟨this.1, by rw [hW j (by omega)]; exact this.2⟩
def Obs.none : Obs := fun _ => Option.none
theorem Sep.none (m : Mem) : Sep m Obs.none := ⟨fun k o h => by (cases h), fun k k' o o' h => by (cases h)⟩
structure AG where
  k : Nat
  W : Obs
  xs : List Tw
  ss : List (ByteArray × ByteArray)
  τs : List Told
theorem Ext.fz {α : Type} {E : Elt α} {m m' : Mem} {a : Option Addr} {n : Nat} {L : List α} (h : Ext m m') (hf : E.fz m a n L) : E.fz m' a n L := by
  obtain ⟨X, hX⟩ := h
  exact hf.keep hX
theorem get_some {α : Type} {l : List α} {i : Nat} (h : i < l.length) : ∃ x, l[i]? = some x := ⟨l[i], List.getElem?_eq_getElem h⟩
theorem alone_spec {ops : List Op} {a : Option Addr} {n c : Nat} {K : Value → Mem → Prop} {m : Mem} (hs : EO.fz m a n ops) (hN : ops.length ≤ 2 ^ 30) (hI : ∀ o ∈ ops, I64 o.a ∧ I64 o.b)
    (hK : ∀ oa τs W m', m'.Ok → Ext m m' → Sep m' W → W (8, 0) = some (ownOb ET oa n n τs) → Hist ops n W τs → K (.slice oa n n) m') : callOK Tryz.prog W0 6 [.slice a n c] K m := by
  refine callOK_ok fun ok => call6 ?_
  have en := hs.len
  unfold s6
  rw [Int.toNat_natCast]
  refine ⟨by omega, by omega, by omega, by omega, ?_⟩
  intro b0 hb0
  rw [Int.toNat_natCast]
  have kp0 := Kp.new (S := []) ok hb0 { wr := true, cell := rowsOf Told.zero.cells n }
  have ok0 := ok.new hb0 { wr := true, cell := rowsOf Told.zero.cells n }
  have own0 : ET.own (m.new b0 { wr := true, cell := rowsOf Told.zero.cells n }) (some ⟨b0, 0, none⟩) n n (List.replicate n Told.zero) := told_new
  show loopE _ _ _ _ (m.new b0 { wr := true, cell := rowsOf Told.zero.cells n })
  generalize m.new b0 { wr := true, cell := rowsOf Told.zero.cells n } = m0 at kp0 ok0 own0 ⊢
  have sep0 : Sep m0 ((((Obs.none.upd (8, 0) (some (ownOb ET (some ⟨b0, 0, none⟩) n n (List.replicate n Told.zero)))).upd (0, 1) (some (ownOb EP none 0 0 []))).upd (0, 4) (some (ownOb ES none 0 0 [])))) := by
    refine Sep.add (Sep.add (Sep.add (Sep.none _) own0 (fun j oj hj => by (cases hj))) (Elt.own.nil _) ?_) (Elt.own.nil _) ?_
    · intro j oj _ _ x hx; simp [ownOb, blkOf] at hx
    · intro j oj _ _ x hx; simp [ownOb, blkOf] at hx
  have f1 : (((Obs.none.upd (8, 0) (some (ownOb ET (some ⟨b0, 0, none⟩) n n (List.replicate n Told.zero)))).upd (0, 1) (some (ownOb EP none 0 0 []))).upd (0, 4) (some (ownOb ES none 0 0 []))) (0, 1) = some (ownOb EP none 0 0 []) := by rw [Obs.upd_ne _ _ (by simp), Obs.upd_eq]
  have f2 : (((Obs.none.upd (8, 0) (some (ownOb ET (some ⟨b0, 0, none⟩) n n (List.replicate n Told.zero)))).upd (0, 1) (some (ownOb EP none 0 0 []))).upd (0, 4) (some (ownOb ES none 0 0 []))) (0, 4) = some (ownOb ES none 0 0 []) := by rw [Obs.upd_eq]
  have f3 : (((Obs.none.upd (8, 0) (some (ownOb ET (some ⟨b0, 0, none⟩) n n (List.replicate n Told.zero)))).upd (0, 1) (some (ownOb EP none 0 0 []))).upd (0, 4) (some (ownOb ES none 0 0 []))) (8, 0) = some (ownOb ET (some ⟨b0, 0, none⟩) n n (List.replicate n Told.zero)) := by rw [Obs.upd_ne _ _ (by simp), Obs.upd_ne _ _ (by simp), Obs.upd_eq]
  generalize ((Obs.none.upd (8, 0) (some (ownOb ET (some ⟨b0, 0, none⟩) n n (List.replicate n Told.zero)))).upd (0, 1) (some (ownOb EP none 0 0 []))).upd (0, 4) (some (ownOb ES none 0 0 [])) = V at sep0 f1 f2 f3
  refine loop6_1 (γ := AG) (fun g xa xl xc sa sl sc i m' => i = g.k ∧ g.k ≤ n ∧ m'.Ok ∧ Ext m m' ∧ AlD m' g.W (some ⟨b0, 0, none⟩) n g.xs g.ss g.τs xa xl xc sa sl sc ∧ (g.xs.length, g.ss.map p2) = csAt ops g.k ∧ Hist ops g.k g.W g.τs ∧ xl ≤ g.k ∧ sl ≤ g.k ∧ g.τs.length = n)
    (fun g _ _ _ _ _ _ _ => n - g.k) ⟨0, V, [], [], List.replicate n Told.zero⟩ ⟨rfl, by dsimp only; omega, ok0, kp0.ext, ⟨sep0, f1, f2, f3, rfl, rfl, fun i T hi => by simp at hi⟩, rfl, fun j o hj => by dsimp only at hj; omega, by dsimp only; omega, by dsimp only; omega, by dsimp only; rw [List.length_replicate]⟩ ?_
  rintro ⟨k, W, xs, ss, τs⟩ xa xl xc sa sl sc i m1 ⟨hik, hk, ok1, x1, d1, cs1, hist1, hxl, hsl, hτ⟩
  dsimp only at hik hk d1 cs1 hist1 hxl hsl hτ ⊢
  subst hik
  unfold s6_1
  have es := x1.fz hs
  refine ifB_lt (fun hlt => ?_) (fun hlt => ?_)
  case refine_2 =>
    rw [e6_1x0]
    have : k = n := by omega
    subst this
    exact hK _ τs W m1 ok1 x1 d1.sep d1.ko hist1
  obtain ⟨o, ho⟩ := get_some (l := ops) (i := k) (by omega)
  have hIo := hI o (List.mem_of_getElem? ho)
  obtain ⟨τ0, hτ0⟩ := get_some (l := τs) (i := k) (by omega)
  refine EO_get es.sl ho fun _ _ _ => ?_
  rw [zero26]
  refine alloc_put ok1 (by simp) one6 (by simp) ?_
  intro b2 m2 hb2 _ ok2 kp2 row2 bn2
  have s2 := d1.sep.new ok1 kp2 (k := (9, 0)) (o := rowOb b2 o.cells) ⟨row2, bn2⟩ (fun x hx => .inr (by simp [rowOb] at hx; omega))
  have d2 := d1.other s2 (fun key hk => Obs.upd_ne _ _ (fun h0 => by rw [h0] at hk; simp at hk))
  have e2 : ∀ key : Key, key.1 ≠ 9 → W.upd (9, 0) (some (rowOb b2 o.cells)) key = W key := fun key hk => Obs.upd_ne _ _ (fun h0 => by rw [h0] at hk; simp at hk)
  have l2 : W.upd (9, 0) (some (rowOb b2 o.cells)) (9, 0) = some (rowOb b2 o.cells) := Obs.upd_eq _ _ _
  generalize W.upd (9, 0) (some (rowOb b2 o.cells)) = W2 at s2 d2 e2 l2
  have x2 := x1.trans kp2.ext
  have hcs := csAt_succ ho
  rw [← cs1] at hcs
  refine ⟨_, row2.1, ?_⟩
  refine ifB_eq (fun hk1 => ?_) (fun hk1 => ?_)
  · refine newTw_spec ?_
    intro T m3 ok3 kp3 in3 at3
    refine ⟨_, rfl, ?_⟩
    have s3 := d2.sep.new ok2 kp3 (k := (1, xs.length)) (o := twOb T) at3 in3
    have own3 : EP.own m3 xa xl xc (xs.map Tw.x) := s3.p (0, 1) (ownOb EP xa xl xc (xs.map Tw.x)) (by rw [Obs.upd_ne _ _ (by simp)]; exact d2.kx)
    refine Elt.app1 (E := EP) (x := T.x) ok3 own3 rfl rfl rfl (by omega) (by omega) ?_
    intro a4 c4 m4 ok4 kp4 own4 in4
    have s4 := s3.turn ok3 (k := (0, 1)) (o := ownOb EP xa xl xc (xs.map Tw.x)) (o' := ownOb EP a4 (xl + 1) c4 (xs.map Tw.x ++ [T.x])) (by rw [Obs.upd_ne _ _ (by simp)]; exact d2.kx) kp4 own4 in4
    generalize hW4 : (W2.upd (1, xs.length) (some (twOb T))).upd (0, 1) (some (ownOb EP a4 (xl + 1) c4 (xs.map Tw.x ++ [T.x]))) = W4 at s4
    have e4 : ∀ key : Key, key ≠ (1, xs.length) → key ≠ (0, 1) → W4 key = W2 key := fun key h1 h2 => by rw [← hW4, Obs.upd_ne _ _ h2, Obs.upd_ne _ _ h1]
    refine ifB_eq (fun h0 => ?_) (fun _ => ?_)
    · have hF : False := by omega
      cases hF
    have row4 : RowAt m4 b2 o.cells := s4.p _ _ ((e4 (9, 0) (by simp) (by simp)).trans l2)
    refine ⟨_, row4.1.2.1, ?_⟩
    refine tpick_spec (by omega) hIo.1 ?_
    refine ⟨_, rfl, ?_⟩
    have hpk := gPk_lt (c := o.a) (n := xl + 1) (by omega)
    obtain ⟨y, hy⟩ := get_some (l := xs.map Tw.x ++ [T.x]) (i := gPk o.a (xl + 1)) (by rw [← own4.len]; exact hpk)
    refine EP_get own4.sl hy fun _ _ _ => ?_
    refine ⟨_, row4.1.1, ?_⟩
    rw [hk1]
    refine ifB_eq (fun h0 => ?_) (fun _ => ?_)
    · have hF : False := by omega
      cases hF
    refine ifB_eq (fun h0 => ?_) (fun _ => ?_)
    · have hF : False := by omega
      cases hF
    refine ifB_eq (fun h0 => ?_) (fun _ => ?_)
    · have hF : False := by omega
      cases hF
    have exl := d1.xl
    refine ⟨⟨k + 1, W4, xs ++ [T], ss, τs⟩, a4, _, c4, sa, sl, sc, _, rfl, ⟨wrapS k (by omega), by dsimp only; omega, ok4, (x2.trans kp3.ext).trans kp4.ext, ⟨s4, ?_, ?_, ?_, ?_, d1.sl, ?_⟩, ?_, ?_, by dsimp only; omega, by dsimp only; omega, hτ⟩, by dsimp only; omega⟩
    · dsimp only; rw [← hW4, Obs.upd_eq]; simp
    · exact (e4 _ (by simp) (by simp)).trans d2.ks
    · exact (e4 _ (by simp) (by simp)).trans d2.ko
    · simp [exl]
    · intro i T0 hi
      dsimp only at hi ⊢
      by_cases he : i = xs.length
      · subst he
        simp at hi
        subst hi
        rw [← hW4, Obs.upd_ne _ _ (by simp), Obs.upd_eq]
      · have hi2 : xs[i]? = some T0 := by
          rw [List.getElem?_append] at hi
          split at hi
          · exact hi
          · rw [List.getElem?_eq_none (by simp; omega)] at hi; cases hi
        rw [e4 _ (by simp [he]) (by simp)]; exact d2.tx i T0 hi2
    · dsimp only
      rw [hcs]
      unfold nxt
      rw [if_pos hk1]
      simp
    · refine hist1.next (fun j hj => ?_) (fun j _ => rfl) ho hτ0 ⟨fun h0 => ?_, fun h0 => ?_, fun h0 => ?_⟩
      · dsimp only; rw [e4 _ (by simp) (by simp), e2 _ (by simp)]
      · rw [hk1] at h0; omega
      · rw [hk1] at h0; omega
      · rw [hk1] at h0; omega
  · have exl := d1.xl
    have esl := d1.sl
    have skip : ∀ (m' : Mem) W', m'.Ok → Ext m m' → AlD m' W' (some ⟨b0, 0, none⟩) n xs ss τs xa xl xc sa sl sc → (∀ j, W' (5, j) = W (5, j)) → nxt (xs.length, ss.map p2) o = (xs.length, ss.map p2) → (∀ W'', ToldOK W'' k τ0 (xs.length, ss.map p2) o) →
        ∃ (g' : AG) (xa' : Option Addr) (xl' xc' : Nat) (sa' : Option Addr) (sl' sc' : Nat) (i' : Int), [(0, Value.slice a n c), (3, Value.slice xa xl xc), (4, Value.slice sa sl sc), (5, Value.slice (some ⟨b0, 0, none⟩) n n), (6, Value.int .i64 (IntKind.wrap .i64 ((k : Int) + 1)))] = F6_1 a n c xa' xl' xc' sa' sl' sc' (some ⟨b0, 0, none⟩) n n i' ∧ (i' = g'.k ∧ g'.k ≤ n ∧ m'.Ok ∧ Ext m m' ∧ AlD m' g'.W (some ⟨b0, 0, none⟩) n g'.xs g'.ss g'.τs xa' xl' xc' sa' sl' sc' ∧ (g'.xs.length, g'.ss.map p2) = csAt ops g'.k ∧ Hist ops g'.k g'.W g'.τs ∧ xl' ≤ g'.k ∧ sl' ≤ g'.k ∧ g'.τs.length = n) ∧ n - g'.k < n - k := by
      intro m' W' ok' x' d' hW' hn ht
      refine ⟨⟨k + 1, W', xs, ss, τs⟩, xa, xl, xc, sa, sl, sc, _, rfl, ⟨wrapS k (by omega), by dsimp only; omega, ok', x', d', by dsimp only; rw [hcs, hn], ?_, by dsimp only; omega, by dsimp only; omega, hτ⟩, by dsimp only; omega⟩
      exact hist1.next (fun j _ => hW' j) (fun j _ => rfl) ho hτ0 (by rw [← cs1]; exact ht _)
    refine ifB_eq (fun h0 => ?_) (fun h0 => ?_)
    · have hx0 : xs.length = 0 := by omega
      refine skip m2 W2 ok2 x2 d2 (fun j => e2 _ (by simp)) ?_ (fun W'' => ⟨fun _ h1 => (h1 hx0).elim, fun _ h1 => (h1 hx0).elim, fun _ h1 => (h1 hx0).elim⟩)
      unfold nxt
      rw [if_neg hk1, if_neg (fun h1 => h1.2 hx0)]
    have hx0 : xs.length ≠ 0 := by omega
    refine ⟨_, row2.2.1, ?_⟩
    refine tpick_spec (by omega) hIo.1 ?_
    refine ⟨_, rfl, ?_⟩
    have hpk := gPk_lt (c := o.a) (n := xl) (by omega)
    generalize gPk o.a xl = q at hpk
    obtain ⟨T, hT⟩ := get_some (l := xs) (i := q) (by omega)
    have ownx : EP.own m2 xa xl xc (xs.map Tw.x) := d2.sep.p _ _ d2.kx
    refine EP_get ownx.sl (x := T.x) (by rw [List.getElem?_map, hT]; rfl) fun _ _ _ => ?_
    have at2 : TwAt m2 T := d2.sep.p _ _ (d2.tx q T hT)
    refine ⟨_, row2.1, ?_⟩
    refine ifB_eq (fun hk2 => ?_) (fun hk2 => ?_)
    · refine ⟨_, at2.at_cell.2.2.2.1, ?_⟩
      refine ⟨_, row2.2.2.2.2.1, ?_⟩
      refine tsolve_spec at2 ?_
      intro T3 a3 n3 pf3 m3 ok3 kp3 nx3 at3 eσ3 eS3 in3 nd3 mv3 hp3
      refine ⟨_, _, _, _, _, _, _, _, _, rfl, ?_⟩
      have s3 := d2.sep.turnNew ok2 (k2 := (5, k)) (o' := twOb T3) (o2 := ownOb EI a3 n3 n3 (gA (bts o.s)).model) (d2.tx q T hT) kp3 at3 nx3.ins mv3.1 in3 nd3
      generalize hW3 : (W2.upd (1, q) (some (twOb T3))).upd (5, k) (some (ownOb EI a3 n3 n3 (gA (bts o.s)).model)) = W3 at s3
      have e3 : ∀ key : Key, key ≠ (1, q) → key ≠ (5, k) → W3 key = W2 key := fun key h1 h2 => by rw [← hW3, Obs.upd_ne _ _ h2, Obs.upd_ne _ _ h1]
      have d3 := d2.turnX hT nx3.x s3 (by rw [← hW3, Obs.upd_ne _ _ (by simp), Obs.upd_eq]) (fun key h1 h2 => e3 key h2 (fun h9 => by rw [h9] at h1; simp at h1))
      refine d3.putA ok3 hτ0 ?_
      intro b4 j4 m4 W4 hb4 ok4 x4 d4 e4
      have l4 : W4 (9, 0) = some (rowOb b2 o.cells) := by rw [e4 _ (by simp), e3 _ (by simp) (by simp)]; exact l2
      have row4 : RowAt m4 b2 o.cells := d4.sep.p _ _ l4
      refine ⟨_, row4.1.2.2.2.2.1, ?_⟩
      have ownt := (d4.sep.p _ _ d4.ko : ET.own m4 _ n n _)
      obtain ⟨b5, o5, hb5, row5, _⟩ := ET_row ownt.sl (i := k) (x := ⟨(gA (bts o.s)).err, (gA (bts o.s)).pos, (gA (bts o.s)).sat, a3, n3, pf3, (gA (bts o.s)).conf, (gA (bts o.s)).rest, τ0.v⟩) (by rw [List.getElem?_set, if_pos rfl, if_pos (by omega)])
      cases hb5
      refine ⟨by omega, by omega, ?_⟩
      rw [Int.toNat_natCast]
      refine ⟨_, row5.2.2.2.2.1, ?_⟩
      have owns : ES.own m4 sa sl sc ss := d4.sep.p _ _ d4.ks
      refine Elt.app1 (E := ES) (x := (o.s, pf3)) ok4 owns rfl rfl rfl (by omega) (by omega) ?_
      intro a6 c6 m6 ok6 kp6 own6 in6
      have s6 := d4.sep.turn ok4 (k := (0, 4)) (o := ownOb ES sa sl sc ss) (o' := ownOb ES a6 (sl + 1) c6 (ss ++ [(o.s, pf3)])) d4.ks kp6 own6 in6
      have e6 : ∀ key : Key, key ≠ (0, 4) → W4.upd (0, 4) (some (ownOb ES a6 (sl + 1) c6 (ss ++ [(o.s, pf3)]))) key = W4 key := fun key h1 => Obs.upd_ne _ _ h1
      have l6 := Obs.upd_eq W4 (0, 4) (some (ownOb ES a6 (sl + 1) c6 (ss ++ [(o.s, pf3)])))
      generalize W4.upd (0, 4) (some (ownOb ES a6 (sl + 1) c6 (ss ++ [(o.s, pf3)]))) = W6 at s6 e6 l6
      refine ⟨⟨k + 1, W6, xs.set q T3, ss ++ [(o.s, pf3)], _⟩, xa, xl, xc, a6, _, c6, _, rfl, ⟨wrapS k (by omega), by dsimp only; omega, ok6, ((x2.trans kp3.ext).trans x4).trans kp6.ext, ⟨s6, (e6 _ (by simp)).trans d4.kx, l6, (e6 _ (by simp)).trans d4.ko, d4.xl, ?_, fun i T0 hi => (e6 _ (by simp)).trans (d4.tx i T0 hi)⟩, ?_, ?_, by dsimp only; omega, by dsimp only; omega, by dsimp only; rw [List.length_set]; exact hτ⟩, by dsimp only; omega⟩
      · simp [esl]
      · dsimp only
        rw [hcs]
        unfold nxt
        rw [if_neg hk1, if_pos ⟨hk2, hx0⟩, List.length_set, List.map_append]
        simp [p2, hp3]
      · refine hist1.next (fun j hj => ?_) (fun j hj => ?_) ho (τ := ⟨(gA (bts o.s)).err, (gA (bts o.s)).pos, (gA (bts o.s)).sat, a3, n3, pf3, (gA (bts o.s)).conf, (gA (bts o.s)).rest, τ0.v⟩) (by dsimp only; rw [List.getElem?_set, if_pos rfl, if_pos (by omega)]) ⟨fun _ _ => ⟨⟨rfl, rfl, rfl, hp3, rfl, rfl, mv3.2⟩, ?_⟩, fun h9 => ?_, fun h9 => ?_⟩
        · dsimp only; rw [e6 _ (by simp), e4 _ (by simp), e3 _ (by simp) (by simp; omega), e2 _ (by simp)]
        · dsimp only; rw [List.getElem?_set, if_neg (by omega)]
        · dsimp only; rw [e6 _ (by simp), e4 _ (by simp), ← hW3, Obs.upd_eq]
        · rw [hk2] at h9; omega
        · rw [hk2] at h9; omega
    have vend : ∀ (v : Int × Int × Int) (m3 m4 : Mem) (W4 : Obs) (T3 : Tw), Ext m2 m3 → AlD m4 W4 (some ⟨b0, 0, none⟩) n (xs.set q T3) ss (τs.set k { τ0 with v := v }) xa xl xc sa sl sc → m4.Ok → Ext m3 m4 → (∀ j, W4 (5, j) = W (5, j)) → (∀ W'', ToldOK W'' k { τ0 with v := v } (xs.length, ss.map p2) o) →
        ∃ (g' : AG) (xa' : Option Addr) (xl' xc' : Nat) (sa' : Option Addr) (sl' sc' : Nat) (i' : Int), [(0, Value.slice a n c), (3, Value.slice xa xl xc), (4, Value.slice sa sl sc), (5, Value.slice (some ⟨b0, 0, none⟩) n n), (6, Value.int .i64 (IntKind.wrap .i64 ((k : Int) + 1)))] = F6_1 a n c xa' xl' xc' sa' sl' sc' (some ⟨b0, 0, none⟩) n n i' ∧ (i' = g'.k ∧ g'.k ≤ n ∧ m4.Ok ∧ Ext m m4 ∧ AlD m4 g'.W (some ⟨b0, 0, none⟩) n g'.xs g'.ss g'.τs xa' xl' xc' sa' sl' sc' ∧ (g'.xs.length, g'.ss.map p2) = csAt ops g'.k ∧ Hist ops g'.k g'.W g'.τs ∧ xl' ≤ g'.k ∧ sl' ≤ g'.k ∧ g'.τs.length = n) ∧ n - g'.k < n - k := by
      intro v m3 m4 W4 T3 x3 d4 ok4 x4 hW4 ht
      refine ⟨⟨k + 1, W4, xs.set q T3, ss, τs.set k { τ0 with v := v }⟩, xa, xl, xc, sa, sl, sc, _, rfl, ⟨wrapS k (by omega), by dsimp only; omega, ok4, (x2.trans x3).trans x4, d4, ?_, ?_, by dsimp only; omega, by dsimp only; omega, by dsimp only; rw [List.length_set]; exact hτ⟩, by dsimp only; omega⟩
      · dsimp only
        rw [hcs, List.length_set]
        unfold nxt
        rw [if_neg hk1, if_neg (fun h1 => hk2 h1.1)]
      · refine hist1.next (fun j _ => hW4 j) (fun j hj => ?_) ho (τ := { τ0 with v := v }) (by dsimp only; rw [List.getElem?_set, if_pos rfl, if_pos (by omega)]) (by rw [← cs1]; exact ht _)
        dsimp only; rw [List.getElem?_set, if_neg (by omega)]
    have hn2 : nxt (xs.length, ss.map p2) o = (xs.length, ss.map p2) := by
      unfold nxt
      rw [if_neg hk1, if_neg (fun h1 => hk2 h1.1)]
    refine ifB_eq (fun hk3 => ?_) (fun hk3 => ?_)
    · refine ⟨_, at2.at_cell.2.2.2.2, ?_⟩
      refine ⟨_, row2.2.2.2.2.1, ?_⟩
      refine ⟨_, row2.2.2.2.2.2.1, ?_⟩
      refine tcheck_spec at2 ?_
      intro T3 m3 ok3 kp3 nx3 at3 eσ3
      refine ⟨_, _, _, rfl, ?_⟩
      have s3 := d2.sep.turn ok2 (o' := twOb T3) (d2.tx q T hT) kp3 at3 nx3.ins
      have d3 := d2.turnX hT nx3.x s3 (Obs.upd_eq _ _ _) (fun key _ h2 => Obs.upd_ne _ _ h2)
      refine d3.putV ok3 hτ0 ?_
      intro b4 j4 m4 W4 ok4 x4 d4 e4
      refine vend (gMCheck (bts o.s) (bts o.t)) m3 m4 W4 T3 kp3.ext d4 ok4 x4 (fun j => by rw [e4 _ (by simp), Obs.upd_ne _ _ (by simp), e2 _ (by simp)]) (fun W'' => ⟨fun h9 => ?_, fun _ _ => rfl, fun h9 => ?_⟩)
      · exact (hk2 h9).elim
      · rw [hk3] at h9; omega
    refine ifB_eq (fun hk4 => ?_) (fun hk4 => ?_)
    · refine ifB_gt (fun hs0 => ?_) (fun hs0 => ?_)
      · refine ⟨_, row2.2.2.1, ?_⟩
        refine tpick_spec (by omega) hIo.2 ?_
        refine ⟨_, rfl, ?_⟩
        have hpk2 := gPk_lt (c := o.b) (n := sl) (by omega)
        obtain ⟨d, hd⟩ := get_some (l := ss) (i := gPk o.b sl) (by omega)
        have hcl : csLast (xs.length, ss.map p2) o = p2 d := by
          unfold csLast
          dsimp only
          rw [List.length_map, ← esl]
          simp [List.getD, hd]
        generalize gPk o.b sl = r at hpk2 hd
        have owns : ES.own m2 sa sl sc ss := d2.sep.p _ _ d2.ks
        refine ES_get owns.sl hd fun _ _ _ => ?_
        rw [zero58]
        refine alloc_put ok2 (by simp) one2 (by simp) ?_
        intro b3 m3 hb3 _ ok3 kp3 row3 bn3
        have s3 := d2.sep.new ok2 kp3 (k := (9, 1)) (o := rowOb b3 [.string d.1, .string d.2]) ⟨row3, bn3⟩ (fun x hx => .inr (by simp [rowOb] at hx; omega))
        have d3 := d2.other s3 (fun key hk => Obs.upd_ne _ _ (fun h0 => by rw [h0] at hk; simp at hk))
        have e3 : ∀ key : Key, key ≠ (9, 1) → W2.upd (9, 1) (some (rowOb b3 [.string d.1, .string d.2])) key = W2 key := fun key hk => Obs.upd_ne _ _ hk
        have l3 : W2.upd (9, 1) (some (rowOb b3 [.string d.1, .string d.2])) (9, 1) = some (rowOb b3 [.string d.1, .string d.2]) := Obs.upd_eq _ _ _
        generalize W2.upd (9, 1) (some (rowOb b3 [.string d.1, .string d.2])) = W3 at s3 d3 e3 l3
        have at3 : TwAt m3 T := d3.sep.p _ _ (d3.tx q T hT)
        have row23 := kp3.row (by simp) row2
        have fin : ∀ (pf : ByteArray) (m4 m5 m6 : Mem) (W6 : Obs) (T5 : Tw), bts pf = gTurned (bts d.2) o.c → Ext m3 m4 → Ext m4 m5 → AlD m6 W6 (some ⟨b0, 0, none⟩) n (xs.set q T5) ss (τs.set k { τ0 with v := gMCheck (bts d.1) (bts pf) }) xa xl xc sa sl sc → m6.Ok → Ext m5 m6 → (∀ j, W6 (5, j) = W3 (5, j)) →
            ∃ (g' : AG) (xa' : Option Addr) (xl' xc' : Nat) (sa' : Option Addr) (sl' sc' : Nat) (i' : Int), [(0, Value.slice a n c), (3, Value.slice xa xl xc), (4, Value.slice sa sl sc), (5, Value.slice (some ⟨b0, 0, none⟩) n n), (6, Value.int .i64 (IntKind.wrap .i64 ((k : Int) + 1)))] = F6_1 a n c xa' xl' xc' sa' sl' sc' (some ⟨b0, 0, none⟩) n n i' ∧ (i' = g'.k ∧ g'.k ≤ n ∧ m6.Ok ∧ Ext m m6 ∧ AlD m6 g'.W (some ⟨b0, 0, none⟩) n g'.xs g'.ss g'.τs xa' xl' xc' sa' sl' sc' ∧ (g'.xs.length, g'.ss.map p2) = csAt ops g'.k ∧ Hist ops g'.k g'.W g'.τs ∧ xl' ≤ g'.k ∧ sl' ≤ g'.k ∧ g'.τs.length = n) ∧ n - g'.k < n - k := by
          intro pf m4 m5 m6 W6 T5 hpf x4 x5 d6 ok6 x6 hW6
          refine vend (gMCheck (bts d.1) (bts pf)) m5 m6 W6 T5 ((kp3.ext.trans x4).trans x5) d6 ok6 x6 (fun j => by rw [hW6, e3 _ (by simp), e2 _ (by simp)]) (fun W'' => ⟨fun h9 => (hk2 h9).elim, fun h9 => (hk3 h9).elim, fun _ _ _ => ?_⟩)
          rw [hcl, hpf]; rfl
        have tc3 := at3.at_cell.2.2.2.2
        refine ⟨_, row3.2.1, ?_⟩
        refine ⟨_, row23.2.2.2.1, ?_⟩
        refine ⟨⟨_, tc3, ?_, ?_, trivial⟩, ⟨_, row3.1, ?_, ?_, trivial⟩, ?_, trivial⟩
        · refine ⟨_, row3.1, ?_⟩
          refine turned_spec ?_
          intro pf4 m4 ok4 kp4 hpf4
          refine ⟨_, rfl, ?_⟩
          have d4 := d3.kp0 kp4
          have at4 : TwAt m4 T := d4.sep.p _ _ (d4.tx q T hT)
          refine tcheck_spec at4 ?_
          intro T5 m5 ok5 kp5 nx5 at5 eσ5
          refine ⟨_, _, _, rfl, ?_⟩
          have s5 := d4.sep.turn ok4 (o' := twOb T5) (d4.tx q T hT) kp5 at5 nx5.ins
          have d5 := d4.turnX hT nx5.x s5 (Obs.upd_eq _ _ _) (fun key _ h2 => Obs.upd_ne _ _ h2)
          refine d5.putV ok5 hτ0 ?_
          intro b6 j6 m6 W6 ok6 x6 d6 e6
          exact fin pf4 m4 m5 m6 W6 T5 hpf4 kp4.ext kp5.ext d6 ok6 x6 (fun j => by rw [e6 _ (by simp), Obs.upd_ne _ _ (by simp)])
        · refine turned_spec ?_
          intro pf4 m4 ok4 kp4 hpf4
          refine ⟨_, rfl, ?_⟩
          have d4 := d3.kp0 kp4
          have at4 : TwAt m4 T := d4.sep.p _ _ (d4.tx q T hT)
          refine ⟨_, kp4.cell (by simp) row3.1, ?_⟩
          refine tcheck_spec at4 ?_
          intro T5 m5 ok5 kp5 nx5 at5 eσ5
          refine ⟨_, _, _, rfl, ?_⟩
          have s5 := d4.sep.turn ok4 (o' := twOb T5) (d4.tx q T hT) kp5 at5 nx5.ins
          have d5 := d4.turnX hT nx5.x s5 (Obs.upd_eq _ _ _) (fun key _ h2 => Obs.upd_ne _ _ h2)
          refine d5.putV ok5 hτ0 ?_
          intro b6 j6 m6 W6 ok6 x6 d6 e6
          exact fin pf4 m4 m5 m6 W6 T5 hpf4 kp4.ext kp5.ext d6 ok6 x6 (fun j => by rw [e6 _ (by simp), Obs.upd_ne _ _ (by simp)])
        · refine ⟨_, tc3, ?_⟩
          refine turned_spec ?_
          intro pf4 m4 ok4 kp4 hpf4
          refine ⟨_, rfl, ?_⟩
          have d4 := d3.kp0 kp4
          have at4 : TwAt m4 T := d4.sep.p _ _ (d4.tx q T hT)
          refine tcheck_spec at4 ?_
          intro T5 m5 ok5 kp5 nx5 at5 eσ5
          refine ⟨_, _, _, rfl, ?_⟩
          have s5 := d4.sep.turn ok4 (o' := twOb T5) (d4.tx q T hT) kp5 at5 nx5.ins
          have d5 := d4.turnX hT nx5.x s5 (Obs.upd_eq _ _ _) (fun key _ h2 => Obs.upd_ne _ _ h2)
          refine d5.putV ok5 hτ0 ?_
          intro b6 j6 m6 W6 ok6 x6 d6 e6
          exact fin pf4 m4 m5 m6 W6 T5 hpf4 kp4.ext kp5.ext d6 ok6 x6 (fun j => by rw [e6 _ (by simp), Obs.upd_ne _ _ (by simp)])
        · refine turned_spec ?_
          intro pf4 m4 ok4 kp4 hpf4
          refine ⟨_, rfl, ?_⟩
          have d4 := d3.kp0 kp4
          have at4 : TwAt m4 T := d4.sep.p _ _ (d4.tx q T hT)
          refine ⟨_, at4.at_cell.2.2.2.2, ?_⟩
          refine tcheck_spec at4 ?_
          intro T5 m5 ok5 kp5 nx5 at5 eσ5
          refine ⟨_, _, _, rfl, ?_⟩
          have s5 := d4.sep.turn ok4 (o' := twOb T5) (d4.tx q T hT) kp5 at5 nx5.ins
          have d5 := d4.turnX hT nx5.x s5 (Obs.upd_eq _ _ _) (fun key _ h2 => Obs.upd_ne _ _ h2)
          refine d5.putV ok5 hτ0 ?_
          intro b6 j6 m6 W6 ok6 x6 d6 e6
          exact fin pf4 m4 m5 m6 W6 T5 hpf4 kp4.ext kp5.ext d6 ok6 x6 (fun j => by rw [e6 _ (by simp), Obs.upd_ne _ _ (by simp)])
        · refine turned_spec ?_
          intro pf4 m4 ok4 kp4 hpf4
          refine ⟨_, rfl, ?_⟩
          have d4 := d3.kp0 kp4
          have at4 : TwAt m4 T := d4.sep.p _ _ (d4.tx q T hT)
          refine ⟨_, at4.at_cell.2.2.2.2, ?_⟩
          refine ⟨_, kp4.cell (by simp) row3.1, ?_⟩
          refine tcheck_spec at4 ?_
          intro T5 m5 ok5 kp5 nx5 at5 eσ5
          refine ⟨_, _, _, rfl, ?_⟩
          have s5 := d4.sep.turn ok4 (o' := twOb T5) (d4.tx q T hT) kp5 at5 nx5.ins
          have d5 := d4.turnX hT nx5.x s5 (Obs.upd_eq _ _ _) (fun key _ h2 => Obs.upd_ne _ _ h2)
          refine d5.putV ok5 hτ0 ?_
          intro b6 j6 m6 W6 ok6 x6 d6 e6
          exact fin pf4 m4 m5 m6 W6 T5 hpf4 kp4.ext kp5.ext d6 ok6 x6 (fun j => by rw [e6 _ (by simp), Obs.upd_ne _ _ (by simp)])
      · have hs1 : ss.map p2 = [] := by
          have : ss.length = 0 := by omega
          rw [List.eq_nil_of_length_eq_zero this]; rfl
        refine skip m2 W2 ok2 x2 d2 (fun j => e2 _ (by simp)) hn2 (fun W'' => ⟨fun h9 => (hk2 h9).elim, fun h9 => (hk3 h9).elim, fun _ _ h9 => (h9 hs1).elim⟩)
    · exact skip m2 W2 ok2 x2 d2 (fun j => e2 _ (by simp)) hn2 (fun W'' => ⟨fun h9 => (hk2 h9).elim, fun h9 => (hk3 h9).elim, fun h9 => (hk4 h9).elim⟩)
end Go.Proofs.Qxb6500974aGreat
