import Derived.Test.Qxb6500974aGreatR29
set_option linter.all false
set_option linter.unusedSimpArgs false
set_option linter.unusedVariables false
namespace Go.Proofs.Qxb6500974aGreat
open Go.Eng
variable {W0 : World}

abbrev Cs := Nat × List (List UInt8 × List UInt8)
def nxt (c : Cs) (o : Op) : Cs := if o.kind = 1 then (c.1 + 1, c.2) else if o.kind = 2 ∧ c.1 ≠ 0 then (c.1, c.2 ++ [(bts o.s, (gA (bts o.s)).proof)]) else c
def csAt (ops : List Op) (i : Nat) : Cs := (ops.take i).foldl nxt (0, [])
theorem csAt_succ {ops : List Op} {i : Nat} {o : Op} (h : ops[i]? = some o) : csAt ops (i + 1) = nxt (csAt ops i) o := by
  unfold csAt
  rw [List.take_add_one, h]
  simp
def csLast (c : Cs) (o : Op) : List UInt8 × List UInt8 := c.2.getD (gPk o.b c.2.length) ([], [])
structure ToldOK (W : Obs) (j : Nat) (τ : Told) (c : Cs) (o : Op) : Prop where
  sol : o.kind = 2 → c.1 ≠ 0 → ToldA τ (gA (bts o.s)) ∧ W (5, j) = some (ownOb EI τ.a τ.n τ.n (gA (bts o.s)).model)
  chk : o.kind = 3 → c.1 ≠ 0 → τ.v = gMCheck (bts o.s) (bts o.t)
  lst : o.kind = 4 → c.1 ≠ 0 → c.2 ≠ [] → τ.v = gMCheck (csLast c o).1 (gTurned (csLast c o).2 o.c)
def p2 (x : ByteArray × ByteArray) : List UInt8 × List UInt8 := (bts x.1, bts x.2)

theorem EP_get {m : Mem} {a : Option Addr} {n : Nat} {L : List Nat} (h : EP.sl m a n L) {i : Nat} {x : Nat} (hi : L[i]? = some x) {K : Nat → Nat → Nat → Option Addr → Prop} (hK : ∀ b o j, K b o j (some ⟨x, 0, none⟩)) :
    ckP a fun b o => ckI (i : Int) n fun j => ldPtr m b (o + j) fun p => K b o j p := by
  obtain ⟨b, o, cs, rfl, rfl, hr⟩ := sl_at h hi
  have hl : i < L.length := by
    rcases Nat.lt_or_ge i L.length with h' | h'
    · exact h'
    · rw [List.getElem?_eq_none h'] at hi; cases hi
  have := h.len
  refine ⟨by omega, by omega, _, ?_, hK _ _ _⟩
  have h2 := hr.1
  rw [show EP.sz = 1 from rfl, Nat.mul_one] at h2
  exact h2
theorem ES_get {m : Mem} {a : Option Addr} {n : Nat} {L : List (ByteArray × ByteArray)} (h : ES.sl m a n L) {i : Nat} {x : ByteArray × ByteArray} (hi : L[i]? = some x) {K : Nat → Nat → Nat → ByteArray → ByteArray → Prop} (hK : ∀ b o j, K b o j x.1 x.2) :
    ckP a fun b o => ckI (i : Int) n fun j => ldStr m b (o + (j * 2)) fun s => ldStr m b ((o + (j * 2)) + 1) fun t => K b o j s t := by
  obtain ⟨b, o, cs, rfl, rfl, hr⟩ := sl_at h hi
  have hl : i < L.length := by
    rcases Nat.lt_or_ge i L.length with h' | h'
    · exact h'
    · rw [List.getElem?_eq_none h'] at hi; cases hi
  have := h.len
  exact ⟨by omega, by omega, _, hr.1, _, hr.2.1, hK _ _ _⟩
theorem EO_get {m : Mem} {a : Option Addr} {n : Nat} {L : List Op} (h : EO.sl m a n L) {i : Nat} {x : Op} (hi : L[i]? = some x) {K : Nat → Nat → Nat → Int → Int → Int → Int → ByteArray → ByteArray → Prop} (hK : ∀ b o j, K b o j x.kind x.a x.b x.c x.s x.t) :
    ckP a fun b o => ckI (i : Int) n fun j => ldInt .i64 m b (o + (j * 6)) fun x0 => ldInt .i64 m b ((o + (j * 6)) + 1) fun x1 => ldInt .i64 m b ((o + (j * 6)) + 2) fun x2 => ldInt .i64 m b ((o + (j * 6)) + 3) fun x3 => ldStr m b ((o + (j * 6)) + 4) fun x4 => ldStr m b ((o + (j * 6)) + 5) fun x5 => K b o j x0 x1 x2 x3 x4 x5 := by
  obtain ⟨b, o, cs, rfl, rfl, hr⟩ := sl_at h hi
  have hl : i < L.length := by
    rcases Nat.lt_or_ge i L.length with h' | h'
    · exact h'
    · rw [List.getElem?_eq_none h'] at hi; cases hi
  have := h.len
  exact ⟨by omega, by omega, _, hr.1, _, hr.2.1, _, hr.2.2.1, _, hr.2.2.2.1, _, hr.2.2.2.2.1, _, hr.2.2.2.2.2.1, hK _ _ _⟩
theorem ET_row {m : Mem} {a : Option Addr} {n : Nat} {L : List Told} (h : ET.sl m a n L) {i : Nat} {x : Told} (hi : L[i]? = some x) : ∃ b o, a = some ⟨b, o, none⟩ ∧ m.row b (o + i * 10) x.cells ∧ i < n := by
  obtain ⟨b, o, cs, rfl, rfl, hr⟩ := sl_at h hi
  have hl : i < L.length := by
    rcases Nat.lt_or_ge i L.length with h' | h'
    · exact h'
    · rw [List.getElem?_eq_none h'] at hi; cases hi
  have := h.len
  exact ⟨b, o, rfl, hr, by omega⟩

def Told.zero : Told := ⟨0, 0, false, none, 0, ByteArray.mk #[], 0, 0, (0, 0, 0)⟩
theorem rep_flat {α : Type} (z : List α) : ∀ (n i : Nat), (List.replicate n z).flatten[i]? = if i < n * z.length then z[i % z.length]? else none
  | 0, i => by simp
  | n + 1, i => by
    have ih := rep_flat z n (i - z.length)
    rw [List.replicate_succ, List.flatten_cons, List.getElem?_append, ih, Nat.add_mul, Nat.one_mul]
    by_cases h : i < z.length
    · rw [if_pos h, if_pos (by omega), Nat.mod_eq_of_lt h]
    · rw [if_neg h]
      by_cases h2 : i - z.length < n * z.length
      · rw [if_pos h2, if_pos (by omega)]
        rw [← Nat.mod_eq_sub_mod (show i ≥ z.length by omega)]
      · rw [if_neg h2, if_neg (by omega)]
theorem reps_rep {α : Type} {E : Elt α} {m : Mem} {cs : List Value} {x : α} (h : E.rep m cs x) : ∀ n, E.reps m (List.replicate n cs) (List.replicate n x)
  | 0 => trivial
  | n + 1 => ⟨h, reps_rep h n⟩
theorem told_new {m : Mem} {b n : Nat} : ET.own (m.new b { wr := true, cell := rowsOf Told.zero.cells n }) (some ⟨b, 0, none⟩) n n (List.replicate n Told.zero) := by
  have hf : ∀ i, (List.replicate n Told.zero.cells).flatten[i]? = rowsOf Told.zero.cells n i := fun i => rep_flat _ _ _
  have hl : (List.replicate n Told.zero.cells).flatten.length = n * 10 := by
    rw [List.length_flatten, List.map_replicate, List.sum_replicate_nat]; rfl
  refine ⟨by rw [List.length_replicate], List.replicate n Told.zero.cells, ⟨hl, Nat.le_refl _, .inr ⟨b, _, rfl, Mem.new_at _ _ _, rfl, ?_, ?_⟩⟩, reps_rep rfl n⟩
  · intro i v hi
    rw [← hi, hf]
  · intro i hi
    have hi2 : i < n * 10 := hi
    dsimp only
    rw [← hf, List.getElem?_eq_getElem (by rw [hl]; exact hi2)]
    rfl

structure AlD (m : Mem) (W : Obs) (oa : Option Addr) (N : Nat) (xs : List Tw) (ss : List (ByteArray × ByteArray)) (τs : List Told) (xa : Option Addr) (xl xc : Nat) (sa : Option Addr) (sl sc : Nat) : Prop where
  sep : Sep m W
  kx : W (0, 1) = some (ownOb EP xa xl xc (xs.map Tw.x))
  ks : W (0, 4) = some (ownOb ES sa sl sc ss)
  ko : W (8, 0) = some (ownOb ET oa N N τs)
  xl : xl = xs.length
  sl : sl = ss.length
  tx : ∀ i T, xs[i]? = some T → W (1, i) = some (twOb T)
theorem AlD.other {m m' : Mem} {W W' : Obs} {oa : Option Addr} {N : Nat} {xs : List Tw} {ss : List (ByteArray × ByteArray)} {τs : List Told} {xa : Option Addr} {xl xc : Nat} {sa : Option Addr} {sl sc : Nat} (h : AlD m W oa N xs ss τs xa xl xc sa sl sc) (hs : Sep m' W') (he : ∀ k : Key, k.1 ≠ 9 → W' k = W k) : AlD m' W' oa N xs ss τs xa xl xc sa sl sc :=
  ⟨hs, by rw [he _ (by simp)]; exact h.kx, by rw [he _ (by simp)]; exact h.ks, by rw [he _ (by simp)]; exact h.ko, h.xl, h.sl, fun i T hi => by rw [he _ (by simp)]; exact h.tx i T hi⟩
theorem AlD.kp0 {m m' : Mem} {W : Obs} {oa : Option Addr} {N : Nat} {xs : List Tw} {ss : List (ByteArray × ByteArray)} {τs : List Told} {xa : Option Addr} {xl xc : Nat} {sa : Option Addr} {sl sc : Nat} (h : AlD m W oa N xs ss τs xa xl xc sa sl sc) (hk : Kp [] m m') : AlD m' W oa N xs ss τs xa xl xc sa sl sc :=
  h.other (h.sep.kp0 hk) (fun _ _ => rfl)

theorem AlD.turnX {m m' : Mem} {k : Nat} {T T' : Tw} {W W' : Obs} {oa : Option Addr} {N : Nat} {xs : List Tw} {ss : List (ByteArray × ByteArray)} {τs : List Told} {xa : Option Addr} {xl xc : Nat} {sa : Option Addr} {sl sc : Nat} (h : AlD m W oa N xs ss τs xa xl xc sa sl sc) (hk : xs[k]? = some T) (hx : T'.x = T.x) (hs : Sep m' W') (h1 : W' (1, k) = some (twOb T')) (he : ∀ key : Key, key.1 ≠ 5 → key ≠ (1, k) → W' key = W key) :
    AlD m' W' oa N (xs.set k T') ss τs xa xl xc sa sl sc := by
  refine ⟨hs, ?_, ?_, ?_, by rw [List.length_set]; exact h.xl, h.sl, ?_⟩
  · rw [he _ (by simp) (by simp), map_set_x hk hx]; exact h.kx
  · rw [he _ (by simp) (by simp)]; exact h.ks
  · rw [he _ (by simp) (by simp)]; exact h.ko
  · intro i T0 hi
    rcases get_set_x hi with ⟨rfl, rfl⟩ | ⟨h2, h3⟩
    · exact h1
    · rw [he _ (by simp) (by simp [h2])]; exact h.tx i T0 h3
theorem tc_a {e p conf rest : Int} {sat : Bool} {a : Option Addr} {n : Nat} {pf : ByteArray} {x : Told} (j : Nat) : (Told.cells ⟨e, p, sat, a, n, pf, conf, rest, x.v⟩)[j]? = if 0 ≤ j ∧ j < 0 + [(Value.int .i64 e), (.int .i64 p), (.bool sat), (.slice a n n), (.string pf), (.int .i64 conf), (.int .i64 rest)].length then [(Value.int .i64 e), (.int .i64 p), (.bool sat), (.slice a n n), (.string pf), (.int .i64 conf), (.int .i64 rest)][j - 0]? else x.cells[j]? := by
  match j with
  | 0 => rfl
  | 1 => rfl
  | 2 => rfl
  | 3 => rfl
  | 4 => rfl
  | 5 => rfl
  | 6 => rfl
  | 7 => rfl
  | 8 => rfl
  | 9 => rfl
  | n + 10 => simp [Told.cells]
theorem tc_v {v : Int × Int × Int} {x : Told} (j : Nat) : (Told.cells { x with v := v })[j]? = if 7 ≤ j ∧ j < 7 + [(Value.int .i64 v.1), (.int .i64 v.2.1), (.int .i64 v.2.2)].length then [(Value.int .i64 v.1), (.int .i64 v.2.1), (.int .i64 v.2.2)][j - 7]? else x.cells[j]? := by
  match j with
  | 0 => rfl
  | 1 => rfl
  | 2 => rfl
  | 3 => rfl
  | 4 => rfl
  | 5 => rfl
  | 6 => rfl
  | 7 => rfl
  | 8 => rfl
  | 9 => rfl
  | n + 10 => simp [Told.cells]

theorem AlD.putA {m : Mem} {i : Nat} {W : Obs} {oa : Option Addr} {N : Nat} {xs : List Tw} {ss : List (ByteArray × ByteArray)} {τs : List Told} {xa : Option Addr} {xl xc : Nat} {sa : Option Addr} {sl sc : Nat} {e p conf rest : Int} {sat : Bool} {a : Option Addr} {n : Nat} {pf : ByteArray} {x : Told} {K : Nat → Nat → Nat → Mem → Prop} (ok : m.Ok) (h : AlD m W oa N xs ss τs xa xl xc sa sl sc) (hx : τs[i]? = some x)
    (hK : ∀ b j m' W', oa = some ⟨b, 0, none⟩ → m'.Ok → Ext m m' → AlD m' W' oa N xs ss (τs.set i ⟨e, p, sat, a, n, pf, conf, rest, x.v⟩) xa xl xc sa sl sc → (∀ k : Key, k ≠ (8, 0) → W' k = W k) → K b 0 j m') :
    ckP oa fun b o => ckI (i : Int) N fun j => stL m b (o + (j * 10)) [(.int .i64 e), (.int .i64 p), (.bool sat), (.slice a n n), (.string pf), (.int .i64 conf), (.int .i64 rest)] fun m' => K b o j m' := by
  have own : ET.own m oa N N τs := h.sep.p _ _ h.ko
  obtain ⟨b, hb, hst⟩ := own_st (E := ET) (d := 0) (vs := [(.int .i64 e), (.int .i64 p), (.bool sat), (.slice a n n), (.string pf), (.int .i64 conf), (.int .i64 rest)]) (cs0 := x.cells) (cs1 := Told.cells ⟨e, p, sat, a, n, pf, conf, rest, x.v⟩) (x' := ⟨e, p, sat, a, n, pf, conf, rest, x.v⟩) ok own hx (fun cs hc => hc) (fun _ => rfl) one7 (by simp) (by simp [ET]) tc_a
  have hil : i < τs.length := by
    rcases Nat.lt_or_ge i τs.length with h' | h'
    · exact h'
    · rw [List.getElem?_eq_none h'] at hx; cases hx
  have hN := own.len
  rw [hb]
  refine ⟨by omega, by omega, ?_⟩
  rw [Int.toNat_natCast]
  refine hst _ _ (by simp [ET]) ?_
  intro m' ok' kp' own'
  have s' := h.sep.turn ok (o' := ownOb ET oa N N (τs.set i ⟨e, p, sat, a, n, pf, conf, rest, x.v⟩)) h.ko kp' own' (InS.self _ _)
  have he : ∀ k : Key, k ≠ (8, 0) → W.upd (8, 0) (some (ownOb ET oa N N (τs.set i ⟨e, p, sat, a, n, pf, conf, rest, x.v⟩))) k = W k := fun k hk => Obs.upd_ne _ _ hk
  exact hK b i m' _ hb ok' kp'.ext ⟨s', (he _ (by simp)).trans h.kx, (he _ (by simp)).trans h.ks, Obs.upd_eq _ _ _, h.xl, h.sl, fun i T hi => (he _ (by simp)).trans (h.tx i T hi)⟩ he

theorem AlD.putV {m : Mem} {i : Nat} {W : Obs} {oa : Option Addr} {N : Nat} {xs : List Tw} {ss : List (ByteArray × ByteArray)} {τs : List Told} {xa : Option Addr} {xl xc : Nat} {sa : Option Addr} {sl sc : Nat} {v : Int × Int × Int} {x : Told} {K : Nat → Nat → Nat → Mem → Prop} (ok : m.Ok) (h : AlD m W oa N xs ss τs xa xl xc sa sl sc) (hx : τs[i]? = some x)
    (hK : ∀ b j m' W', m'.Ok → Ext m m' → AlD m' W' oa N xs ss (τs.set i { x with v := v }) xa xl xc sa sl sc → (∀ k : Key, k ≠ (8, 0) → W' k = W k) → K b 0 j m') :
    ckP oa fun b o => ckI (i : Int) N fun j => stL m b ((o + (j * 10)) + 7) [(.int .i64 v.1), (.int .i64 v.2.1), (.int .i64 v.2.2)] fun m' => K b o j m' := by
  have own : ET.own m oa N N τs := h.sep.p _ _ h.ko
  obtain ⟨b, hb, hst⟩ := own_st (E := ET) (d := 7) (vs := [(.int .i64 v.1), (.int .i64 v.2.1), (.int .i64 v.2.2)]) (cs0 := x.cells) (cs1 := Told.cells { x with v := v }) (x' := { x with v := v }) ok own hx (fun cs hc => hc) (fun _ => rfl) one3 (by simp) (by simp [ET]) tc_v
  have hil : i < τs.length := by
    rcases Nat.lt_or_ge i τs.length with h' | h'
    · exact h'
    · rw [List.getElem?_eq_none h'] at hx; cases hx
  have hN := own.len
  rw [hb]
  refine ⟨by omega, by omega, ?_⟩
  rw [Int.toNat_natCast]
  refine hst _ _ (by simp [ET]) ?_
  intro m' ok' kp' own'
  have s' := h.sep.turn ok (o' := ownOb ET oa N N (τs.set i { x with v := v })) h.ko kp' own' (InS.self _ _)
  have he : ∀ k : Key, k ≠ (8, 0) → W.upd (8, 0) (some (ownOb ET oa N N (τs.set i { x with v := v }))) k = W k := fun k hk => Obs.upd_ne _ _ hk
  exact hK b i m' _ ok' kp'.ext ⟨s', (he _ (by simp)).trans h.kx, (he _ (by simp)).trans h.ks, Obs.upd_eq _ _ _, h.xl, h.sl, fun i T hi => (he _ (by simp)).trans (h.tx i T hi)⟩ he
end Go.Proofs.Qxb6500974aGreat
