import Derived.Test.Qxb6500974aGreatR26
set_option linter.all false
set_option linter.unusedSimpArgs false
set_option linter.unusedVariables false
namespace Go.Proofs.Qxb6500974aGreat
open Go.Eng
variable {W0 : World}

structure Ob where
  foot : List Nat
  P : Mem → Prop
  keep : ∀ {X : List Nat} {m m' : Mem}, P m → Kp X m m' → (∀ x ∈ foot, x ∉ X) → P m'
  lt : ∀ {m : Mem}, m.Ok → P m → ∀ x ∈ foot, x < m.top
abbrev Key := Nat × Nat
abbrev Obs := Key → Option Ob
def Obs.upd (W : Obs) (k : Key) (o : Option Ob) : Obs := fun j => if j = k then o else W j
theorem Obs.upd_eq (W : Obs) (k : Key) (o : Option Ob) : W.upd k o k = o := by simp [Obs.upd]
theorem Obs.upd_ne (W : Obs) {k j : Key} (o : Option Ob) (h : j ≠ k) : W.upd k o j = W j := by simp [Obs.upd, h]
structure Sep (m : Mem) (W : Obs) : Prop where
  p : ∀ k o, W k = some o → o.P m
  d : ∀ k k' o o', W k = some o → W k' = some o' → k ≠ k' → ∀ x ∈ o.foot, x ∉ o'.foot
theorem Sep.kp0 {m m' : Mem} {W : Obs} (h : Sep m W) (hk : Kp [] m m') : Sep m' W :=
  ⟨fun k o hk' => o.keep (h.p k o hk') hk (fun _ _ => by simp), h.d⟩

theorem Sep.turn {m m' : Mem} {W : Obs} (h : Sep m W) (ok : m.Ok) {k : Key} {o o' : Ob} (hw : W k = some o) (hk : Kp o.foot m m') (hp : o'.P m') (hi : InS o.foot m o'.foot) : Sep m' (W.upd k (some o')) := by
  have key : ∀ j oj, W j = some oj → j ≠ k → ∀ x ∈ o'.foot, x ∉ oj.foot := by
    intro j oj hj hne x hx h0
    rcases hi x hx with h1 | h1
    · exact h.d k j o oj hw hj (Ne.symm hne) x h1 h0
    · have := oj.lt ok (h.p j oj hj) x h0
      omega
  refine ⟨fun j oj hj => ?_, fun j j' oj oj' hj hj' hne x hx h0 => ?_⟩
  · by_cases he : j = k
    · subst he
      rw [Obs.upd_eq] at hj
      cases hj
      exact hp
    · rw [Obs.upd_ne _ _ he] at hj
      exact oj.keep (h.p j oj hj) hk (h.d j k oj o hj hw he)
  · by_cases he : j = k
    · subst he
      rw [Obs.upd_eq] at hj
      cases hj
      rw [Obs.upd_ne _ _ (Ne.symm hne)] at hj'
      exact key j' oj' hj' (Ne.symm hne) x hx h0
    · rw [Obs.upd_ne _ _ he] at hj
      by_cases he' : j' = k
      · subst he'
        rw [Obs.upd_eq] at hj'
        cases hj'
        exact key j oj hj he x h0 hx
      · rw [Obs.upd_ne _ _ he'] at hj'
        exact h.d j j' oj oj' hj hj' hne x hx h0

theorem Sep.add {m : Mem} {W : Obs} (h : Sep m W) {k : Key} {o : Ob} (hp : o.P m) (hd : ∀ j oj, W j = some oj → j ≠ k → ∀ x ∈ o.foot, x ∉ oj.foot) : Sep m (W.upd k (some o)) := by
  refine ⟨fun j oj hj => ?_, fun j j' oj oj' hj hj' hne x hx h0 => ?_⟩
  · by_cases he : j = k
    · subst he
      rw [Obs.upd_eq] at hj
      cases hj
      exact hp
    · rw [Obs.upd_ne _ _ he] at hj
      exact h.p j oj hj
  · by_cases he : j = k
    · subst he
      rw [Obs.upd_eq] at hj
      cases hj
      rw [Obs.upd_ne _ _ (Ne.symm hne)] at hj'
      exact hd j' oj' hj' (Ne.symm hne) x hx h0
    · rw [Obs.upd_ne _ _ he] at hj
      by_cases he' : j' = k
      · subst he'
        rw [Obs.upd_eq] at hj'
        cases hj'
        exact hd j oj hj he x h0 hx
      · rw [Obs.upd_ne _ _ he'] at hj'
        exact h.d j j' oj oj' hj hj' hne x hx h0
theorem Sep.new {m m' : Mem} {W : Obs} (h : Sep m W) (ok : m.Ok) (hk : Kp [] m m') {k : Key} {o : Ob} (hp : o.P m') (hi : InS [] m o.foot) : Sep m' (W.upd k (some o)) := by
  refine (h.kp0 hk).add hp fun j oj hj _ x hx h0 => ?_
  rcases hi x hx with h1 | h1
  · cases h1
  · have := oj.lt ok (h.p j oj hj) x h0
    omega

theorem Sep.turnNew {m m' : Mem} {W : Obs} (h : Sep m W) (ok : m.Ok) {k k2 : Key} {o o' o2 : Ob} (hw : W k = some o) (hk : Kp o.foot m m') (hp : o'.P m') (hi : InS o.foot m o'.foot) (hp2 : o2.P m') (hi2 : InS [] m o2.foot) (hd : ∀ x ∈ o2.foot, x ∉ o'.foot) : Sep m' ((W.upd k (some o')).upd k2 (some o2)) := by
  refine (h.turn ok hw hk hp hi).add hp2 fun j oj hj _ x hx h0 => ?_
  by_cases he : j = k
  · subst he
    rw [Obs.upd_eq] at hj
    cases hj
    exact hd x hx h0
  · rw [Obs.upd_ne _ _ he] at hj
    rcases hi2 x hx with h1 | h1
    · cases h1
    · have := oj.lt ok (h.p j oj hj) x h0
      omega
theorem Sep.drop {m : Mem} {W : Obs} (h : Sep m W) (k : Key) : Sep m (W.upd k none) := by
  refine ⟨fun j oj hj => ?_, fun j j' oj oj' hj hj' hne x hx h0 => ?_⟩
  · by_cases he : j = k
    · subst he; rw [Obs.upd_eq] at hj; cases hj
    · rw [Obs.upd_ne _ _ he] at hj; exact h.p j oj hj
  · by_cases he : j = k
    · subst he; rw [Obs.upd_eq] at hj; cases hj
    · rw [Obs.upd_ne _ _ he] at hj
      by_cases he' : j' = k
      · subst he'; rw [Obs.upd_eq] at hj'; cases hj'
      · rw [Obs.upd_ne _ _ he'] at hj'
        exact h.d j j' oj oj' hj hj' hne x hx h0

theorem Sep.move {m : Mem} {W : Obs} (h : Sep m W) {k k2 : Key} {o : Ob} (hw : W k = some o) : Sep m ((W.upd k none).upd k2 (some o)) := by
  refine (h.drop k).add (h.p k o hw) fun j oj hj _ x hx h0 => ?_
  by_cases he : j = k
  · subst he; rw [Obs.upd_eq] at hj; cases hj
  · rw [Obs.upd_ne _ _ he] at hj
    exact h.d k j o oj hw hj (Ne.symm he) x hx h0
theorem Sep.sub {m : Mem} {W W' : Obs} (h : Sep m W) (hs : ∀ k o, W' k = some o → W k = some o) : Sep m W' :=
  ⟨fun k o hk => h.p k o (hs k o hk), fun k k' o o' hk hk' => h.d k k' o o' (hs k o hk) (hs k' o' hk')⟩

def twOb (T : Tw) : Ob := ⟨T.foot, fun m => TwAt m T, fun h hk hs => h.keep hk hs, fun ok h => h.lt ok⟩
def ownOb {α : Type} (E : Elt α) (a : Option Addr) (n c : Nat) (L : List α) : Ob := ⟨blkOf a, fun m => E.own m a n c L, fun h hk hs => h.keep hk hs, fun ok h => h.lt ok⟩

def RowAt (m : Mem) (b : Nat) (vs : List Value) : Prop := m.row b 0 vs ∧ BlkN m b vs.length
def rowOb (b : Nat) (vs : List Value) : Ob := ⟨[b], fun m => RowAt m b vs, fun h hk hs => ⟨hk.row (hs b (by simp)) h.1, h.2.keep hk (hs b (by simp))⟩, fun ok h x hx => by simp at hx; subst hx; exact h.2.lt ok⟩

def EP : Elt Nat where
  sz := 1
  rep := fun _ cs x => cs = [ptr x 0]
  pos := by decide
  len := by rintro _ _ _ rfl; rfl
  one := by rintro _ _ _ rfl v hv; simp at hv; subst hv; rfl
  keep := fun _ h => h
structure Kpt where
  ra : Option Addr
  wa : Option Addr
  n : Nat
  l : List Int
def EK : Elt Kpt where
  sz := 2
  rep := fun _ cs k => cs = [.slice k.ra k.n k.n, .slice k.wa k.n k.n]
  pos := by decide
  len := by rintro _ _ _ rfl; rfl
  one := by rintro _ _ _ rfl v hv; simp at hv; rcases hv with rfl | rfl <;> rfl
  keep := fun _ h => h
def ES : Elt (ByteArray × ByteArray) where
  sz := 2
  rep := fun _ cs k => cs = [.string k.1, .string k.2]
  pos := by decide
  len := by rintro _ _ _ rfl; rfl
  one := by rintro _ _ _ rfl v hv; simp at hv; rcases hv with rfl | rfl <;> rfl
  keep := fun _ h => h
structure Op where
  kind : Int
  a : Int
  b : Int
  c : Int
  s : ByteArray
  t : ByteArray
def Op.cells (o : Op) : List Value := [.int .i64 o.kind, .int .i64 o.a, .int .i64 o.b, .int .i64 o.c, .string o.s, .string o.t]
def EO : Elt Op where
  sz := 6
  rep := fun _ cs o => cs = o.cells
  pos := by decide
  len := by rintro _ _ _ rfl; rfl
  one := by rintro _ _ _ rfl v hv; simp [Op.cells] at hv; rcases hv with rfl | rfl | rfl | rfl | rfl | rfl <;> rfl
  keep := fun _ h => h
structure Told where
  e : Int
  p : Int
  sat : Bool
  a : Option Addr
  n : Nat
  pf : ByteArray
  conf : Int
  rest : Int
  v : Int × Int × Int
def Told.cells (o : Told) : List Value := [.int .i64 o.e, .int .i64 o.p, .bool o.sat, .slice o.a o.n o.n, .string o.pf, .int .i64 o.conf, .int .i64 o.rest, .int .i64 o.v.1, .int .i64 o.v.2.1, .int .i64 o.v.2.2]
def ET : Elt Told where
  sz := 10
  rep := fun _ cs o => cs = o.cells
  pos := by decide
  len := by rintro _ _ _ rfl; rfl
  one := by rintro _ _ _ rfl v hv; simp [Told.cells] at hv; rcases hv with rfl | rfl | rfl | rfl | rfl | rfl | rfl | rfl | rfl | rfl <;> rfl
  keep := fun _ h => h

theorem sl_at {α : Type} {E : Elt α} {m : Mem} {a : Option Addr} {n : Nat} {L : List α} (h : E.sl m a n L) {i : Nat} {x : α} (hi : L[i]? = some x) : ∃ b o cs, a = some ⟨b, o, none⟩ ∧ E.rep m cs x ∧ m.row b (o + i * E.sz) cs := by
  rcases h.2 with ⟨h1, _⟩ | ⟨b, o, h1, h2⟩
  · subst h1; simp at hi
  · obtain ⟨cs, h3, h4⟩ := h2 i x hi
    exact ⟨b, o, cs, h1, h3, h4⟩
theorem reps_set {α : Type} {E : Elt α} {m : Mem} {cs : List Value} {x : α} (hx : E.rep m cs x) : ∀ {css : List (List Value)} {L : List α} (i : Nat), E.reps m css L → E.reps m (css.set i cs) (L.set i x)
  | [], [], i, h => by simp [Elt.reps]
  | c :: css, y :: L, 0, h => ⟨hx, h.2⟩
  | c :: css, y :: L, i + 1, h => ⟨h.1, reps_set hx i h.2⟩
  | [], _ :: _, _, h => h.elim
  | _ :: _, [], _, h => h.elim
theorem flat_set {α : Type} {E : Elt α} {m : Mem} {cs : List Value} (hc : cs.length = E.sz) : ∀ {css : List (List Value)} {L : List α} (i : Nat), E.reps m css L → ∀ j, (css.set i cs).flatten[j]? = if i < L.length ∧ i * E.sz ≤ j ∧ j < i * E.sz + E.sz then cs[j - i * E.sz]? else css.flatten[j]?
  | [], [], i, h, j => by simp
  | c :: css, y :: L, 0, h, j => by
    have h1 := E.len h.1
    simp only [List.set_cons_zero, List.flatten_cons, List.length_cons, Nat.zero_mul, Nat.zero_le, true_and, Nat.zero_add, Nat.sub_zero]
    rw [List.getElem?_append, List.getElem?_append, hc, h1]
    by_cases hj : j < E.sz
    · rw [if_pos hj, if_pos ⟨by omega, hj⟩]
    · rw [if_neg hj, if_neg hj, if_neg (fun h0 => hj h0.2)]
  | c :: css, y :: L, i + 1, h, j => by
    have h1 := E.len h.1
    have ih := flat_set (E := E) (m := m) hc i h.2 (j - E.sz)
    simp only [List.set_cons_succ, List.flatten_cons, List.length_cons]
    rw [List.getElem?_append, List.getElem?_append, h1, ih]
    have em : (i + 1) * E.sz = i * E.sz + E.sz := by rw [Nat.add_mul, Nat.one_mul]
    rw [em]
    by_cases hj : j < E.sz
    · rw [if_pos hj, if_pos hj, if_neg (by omega)]
    · rw [if_neg hj, if_neg hj]
      by_cases h2 : i < L.length ∧ i * E.sz ≤ j - E.sz ∧ j - E.sz < i * E.sz + E.sz
      · rw [if_pos h2, if_pos (by omega)]
        congr 1; omega
      · rw [if_neg h2, if_neg (by omega)]
  | [], _ :: _, _, h, _ => h.elim
  | _ :: _, [], _, h, _ => h.elim

theorem own_st {α : Type} {E : Elt α} {m : Mem} {a : Option Addr} {n c : Nat} {L : List α} {i d : Nat} {vs cs0 cs1 : List Value} {x x' : α} (ok : m.Ok) (h : E.own m a n c L) (hx : L[i]? = some x)
    (h0 : ∀ cs, E.rep m cs x → cs = cs0) (h1 : ∀ m', E.rep m' cs1 x') (hone : ∀ v ∈ vs, oneC v = true) (hne : vs ≠ []) (hvs : d + vs.length ≤ E.sz)
    (hcs : ∀ j, cs1[j]? = if d ≤ j ∧ j < d + vs.length then vs[j - d]? else cs0[j]?) :
    ∃ b, a = some ⟨b, 0, none⟩ ∧ ∀ (K : Mem → Prop) off, off = i * E.sz + d → (∀ m', m'.Ok → Kp (blkOf a) m m' → E.own m' a n c (L.set i x') → K m') → stL m b off vs K := by
  have hil : i < L.length := by
    rcases Nat.lt_or_ge i L.length with h' | h'
    · exact h'
    · rw [List.getElem?_eq_none h'] at hx; cases hx
  obtain ⟨hn, css, ⟨hl, hc, hcell⟩, hr⟩ := h
  have hlen := Elt.reps_len hr
  have hmul : (i + 1) * E.sz ≤ L.length * E.sz := Nat.mul_le_mul_right _ (by omega)
  have em : (i + 1) * E.sz = i * E.sz + E.sz := by rw [Nat.add_mul, Nat.one_mul]
  have hpos := E.pos
  have hcc : L.length * E.sz ≤ c * E.sz := Nat.mul_le_mul_right _ (by omega)
  rcases hcell with ⟨rfl, rfl⟩ | ⟨b, f, rfl, hb, hw, hv, hs⟩
  · omega
  refine ⟨b, rfl, ?_⟩
  intro K off hoff hK
  subst hoff
  refine stL_of vs _ m f K hb hw ?_ hone ?_ (fun h => (hne h).elim)
  · intro j hj
    exact hs _ (by omega)
  obtain ⟨cs, g1, g2⟩ := Elt.reps_at hr hx
  have ecs := h0 cs g1
  have el := E.len g1
  have h1m := h1 m
  have el1 := E.len h1m
  refine hK _ (ok.setB hb) (Kp.setB hb hw _ (by simp [blkOf])) ⟨by rw [List.length_set]; exact hn, css.set i cs1, ⟨?_, hc, .inr ⟨b, _, rfl, Mem.setB_at _ _ _, rfl, ?_, ?_⟩⟩, ?_⟩
  · have := (Elt.reps_len (reps_set (h1 m) i hr)).1
    rw [this, List.length_set, hn]
  · intro j v hj
    rw [flat_set el1 i hr] at hj
    dsimp only
    by_cases hin : i < L.length ∧ i * E.sz ≤ j ∧ j < i * E.sz + E.sz
    · rw [if_pos hin, hcs] at hj
      by_cases hd : d ≤ j - i * E.sz ∧ j - i * E.sz < d + vs.length
      · rw [if_pos hd] at hj
        rw [if_pos (by omega), ← hj]
        congr 1; omega
      · rw [if_neg hd] at hj
        rw [if_neg (by omega)]
        refine hv j v ?_
        rw [← ecs] at hj
        have := g2 _ v hj
        rw [show i * E.sz + (j - i * E.sz) = j by omega] at this
        exact this
    · rw [if_neg hin] at hj
      rw [if_neg (by omega)]
      exact hv j v hj
  · intro j hj
    dsimp only
    split
    · rw [List.getElem?_eq_getElem (by omega)]; rfl
    · exact hs j hj
  · refine reps_set (h1 _) i ?_
    exact Elt.reps_keep (S := [b]) (Kp.setB hb hw _ (by simp)) hr

structure Wd where
  xs : List Tw
  qs : List Tw
  ks : List Kpt
  ss : List (ByteArray × ByteArray)
  xa : Option Addr
  xc : Nat
  qa : Option Addr
  qc : Nat
  ka : Option Addr
  kc : Nat
  sa : Option Addr
  sc : Nat
def Wd.cells (D : Wd) : List Value := [.slice D.xa D.xs.length D.xc, .slice D.qa D.qs.length D.qc, .slice D.ka D.ks.length D.kc, .slice D.sa D.ss.length D.sc]
structure WdAt (m : Mem) (w : Nat) (W : Obs) (D : Wd) : Prop where
  sep : Sep m W
  kw : W (0, 0) = some (rowOb w D.cells)
  kx : W (0, 1) = some (ownOb EP D.xa D.xs.length D.xc (D.xs.map Tw.x))
  kq : W (0, 2) = some (ownOb EP D.qa D.qs.length D.qc (D.qs.map Tw.x))
  kk : W (0, 3) = some (ownOb EK D.ka D.ks.length D.kc D.ks)
  ks : W (0, 4) = some (ownOb ES D.sa D.ss.length D.sc D.ss)
  tx : ∀ i T, D.xs[i]? = some T → W (1, i) = some (twOb T)
  tq : ∀ i T, D.qs[i]? = some T → W (2, i) = some (twOb T)
  kr : ∀ i k, D.ks[i]? = some k → W (3, i) = some (ownOb EI k.ra k.n k.n k.l) ∧ W (4, i) = some (ownOb EI k.wa k.n k.n k.l) ∧ k.l.length ≤ 12
theorem WdAt.kp0 {m m' : Mem} {w : Nat} {W : Obs} {D : Wd} (h : WdAt m w W D) (hk : Kp [] m m') : WdAt m' w W D := ⟨h.sep.kp0 hk, h.kw, h.kx, h.kq, h.kk, h.ks, h.tx, h.tq, h.kr⟩

theorem WdAt.other {m m' : Mem} {w : Nat} {W W' : Obs} {D : Wd} (h : WdAt m w W D) (hs : Sep m' W') (he : ∀ k : Key, k.1 < 5 → W' k = W k) : WdAt m' w W' D :=
  ⟨hs, by rw [he _ (by simp)]; exact h.kw, by rw [he _ (by simp)]; exact h.kx, by rw [he _ (by simp)]; exact h.kq, by rw [he _ (by simp)]; exact h.kk, by rw [he _ (by simp)]; exact h.ks,
   fun i T hi => by rw [he _ (by simp)]; exact h.tx i T hi, fun i T hi => by rw [he _ (by simp)]; exact h.tq i T hi, fun i k hi => by rw [he _ (by simp), he _ (by simp)]; exact h.kr i k hi⟩
theorem RowAt.st {m : Mem} {b : Nat} {vs : List Value} {i : Nat} {v : Value} {K : Mem → Prop} (ok : m.Ok) (h : RowAt m b vs) (hi : i < vs.length) (hK : ∀ m', m'.Ok → Kp [b] m m' → RowAt m' b (vs.set i v) → K m') : st m b i v K := by
  obtain ⟨h1, f, h2, h3, h4⟩ := h
  refine ⟨f, h2, h3, h4 i hi, hK _ (ok.setB h2) (Kp.setB h2 h3 _ (by simp)) ⟨row_of fun j u hj => ?_, _, Mem.setB_at _ _ _, h3, fun j hj => ?_⟩⟩
  · refine Mem.cell_of (Mem.setB_at _ _ _) ?_
    rw [Nat.zero_add]
    simp only [Blk.upd]
    rw [List.getElem?_set] at hj
    by_cases he : j = i
    · rw [if_pos he]
      rw [if_pos he.symm, if_pos (by omega)] at hj
      exact hj
    · rw [if_neg he]
      rw [if_neg (Ne.symm he)] at hj
      have := row_get h1 hj
      simp only [Mem.cell, h2, Nat.zero_add] at this
      exact this
  · rw [List.length_set] at hj
    simp only [Blk.upd]
    split
    · rfl
    · exact h4 j hj
end Go.Proofs.Qxb6500974aGreat
