import Derived.Test.Qxb6500974aGreatR0
import Derived.Test.Qxb6500974aGreatM2
set_option linter.all false
set_option linter.unusedSimpArgs false
set_option linter.unusedVariables false
namespace Go.Proofs.Qxb6500974aGreat
open Go.Eng
variable {W0 : World}

structure Ent where
  lit : Int
  lev : Nat
  rsn : Int
structure Tr where
  es : List Ent
  cur : Nat
  dep : Nat

def entOf : List Ent → Nat → Option Ent
  | [], _ => none
  | e :: es, v => if e.lit.natAbs = v then some e else entOf es v
def plcOf : List Ent → Nat → Nat → Int
  | [], _, _ => -1
  | e :: es, i, v => if e.lit.natAbs = v then (i : Int) else plcOf es (i + 1) v
def valE : Option Ent → Int
  | none => 0
  | some e => if e.lit < 0 then -1 else 1
def levE : Option Ent → Int
  | none => -1
  | some e => e.lev
def rsnE : Option Ent → Int
  | none => -1
  | some e => e.rsn

def Tr.value (t : Tr) (l : Int) : Int := if goGoodLit l = true then (if l < 0 then -(valE (entOf t.es l.natAbs)) else valE (entOf t.es l.natAbs)) else 0
def Tr.levOf (t : Tr) (v : Int) : Int := if goIsVar v = true then levE (entOf t.es v.natAbs) else -1
def Tr.rsnOf (t : Tr) (v : Int) : Int := if goIsVar v = true then rsnE (entOf t.es v.natAbs) else -1
def Tr.plcOf (t : Tr) (v : Int) : Int := if goIsVar v = true then Qxb6500974aGreat.plcOf t.es 0 v.natAbs else -1
def Tr.at (t : Tr) (i : Int) : Int := if 0 ≤ i ∧ i < t.es.length then ((t.es[i.toNat]?).map Ent.lit).getD 0 else 0

def stair : Nat → List Ent → Nat → Prop
  | p, [], d => p = d
  | p, e :: es, d => (e.lev = p ∨ e.lev = p + 1) ∧ stair e.lev es d
structure Tr.Good (t : Tr) : Prop where
  lits : ∀ e ∈ t.es, goGoodLit e.lit = true
  vars : t.es.Pairwise fun a b => a.lit.natAbs ≠ b.lit.natAbs
  cur : t.cur ≤ t.es.length
  len : t.es.length ≤ 12
  st : stair 0 t.es t.dep
def limOf (es : List Ent) (k : Nat) : Nat := (es.takeWhile fun e => decide (e.lev < k)).length
structure TrRep (c : TrC) (t : Tr) : Prop where
  top : c.top = t.es.length
  cursor : c.cursor = t.cur
  depth : c.depth = t.dep
  stack : ∀ i e, t.es[i]? = some e → c.stack i = e.lit
  val : ∀ v, v < 13 → c.val v = valE (entOf t.es v)
  level : ∀ v, v < 13 → c.level v = levE (entOf t.es v)
  reason : ∀ v, v < 13 → c.reason v = rsnE (entOf t.es v)
  place : ∀ v, v < 13 → c.place v = plcOf t.es 0 v
  lim : ∀ k, 1 ≤ k → k ≤ t.dep → c.lim k = limOf t.es k

structure TrRep0 (c : TrC) (es : List Ent) : Prop where
  top : c.top = es.length
  stack : ∀ i e, es[i]? = some e → c.stack i = e.lit
  val : ∀ v, v < 13 → c.val v = valE (entOf es v)
  level : ∀ v, v < 13 → c.level v = levE (entOf es v)
  reason : ∀ v, v < 13 → c.reason v = rsnE (entOf es v)
  place : ∀ v, v < 13 → c.place v = plcOf es 0 v
theorem TrRep.zero {c : TrC} {t : Tr} (h : TrRep c t) : TrRep0 c t.es := ⟨h.top, h.stack, h.val, h.level, h.reason, h.place⟩

structure TrAt (m : Mem) (b : Nat) (t : Tr) : Prop where
  good : t.Good
  rep : ∃ c, TrB m b c ∧ TrRep c t
theorem TrAt.keep {S : List Nat} {m m' : Mem} {b : Nat} {t : Tr} (h : TrAt m b t) (hk : Kp S m m') (hb : b ∉ S) : TrAt m' b t := by
  obtain ⟨g, c, h1, h2⟩ := h
  exact ⟨g, c, h1.keep hk hb, h2⟩
theorem TrAt.lt {m : Mem} {b : Nat} {t : Tr} (ok : m.Ok) (h : TrAt m b t) : b < m.top := by
  obtain ⟨g, c, h1, h2⟩ := h
  exact h1.lt ok
theorem good_abs {l : Int} (h : goGoodLit l = true) : l ≠ 0 ∧ 1 ≤ l.natAbs ∧ l.natAbs ≤ 12 ∧ LitB l ∧ goVar l = (l.natAbs : Int) := by
  simp only [goGoodLit, decide_eq_true_eq] at h
  refine ⟨h.1, by omega, by omega, ⟨by omega, by omega⟩, ?_⟩
  unfold goVar
  split
  · rw [wrap_i64 (by omega) (by omega)]; omega
  · omega
theorem isVar_iff {v : Int} : goIsVar v = true ↔ 1 ≤ v ∧ v ≤ 12 := by simp [goIsVar]
theorem valE_range (o : Option Ent) : valE o = -1 ∨ valE o = 0 ∨ valE o = 1 := by
  cases o with
  | none => simp [valE]
  | some e => simp only [valE]; split <;> simp
theorem value_spec {b : Nat} {t : Tr} {l : Int} {K : Value → Mem → Prop} {m : Mem} (h : TrAt m b t) (hK : K (.int .i64 (t.value l)) m) : callOK Tryz.prog W0 65 [ptr b 0, .int .i64 l] K m := by
  refine call65 ?_
  obtain ⟨g, c, h1, h2⟩ := h
  unfold s65
  unfold Tr.value at hK
  refine ifB_not (fun hg => ?_) (fun hg => ?_)
  · rw [if_neg (by rw [hg]; decide)] at hK
    exact hK
  · rw [if_pos hg] at hK
    have ha := good_abs hg
    have hr := valE_range (entOf t.es l.natAbs)
    refine ifB_lt (fun hn => ?_) (fun hn => ?_)
    · rw [if_pos hn] at hK
      rw [wrap_i64 (by have := ha.2.2.2.1; unfold LitB at this; omega) (by have := ha.2.2.2.1; unfold LitB at this; omega)]
      refine ⟨by omega, by omega, ?_⟩
      have e : (0 - l).toNat = l.natAbs := by omega
      rw [e]
      refine ⟨_, h1.val (by omega), ?_⟩
      rw [h2.val _ (by omega)]
      dsimp only
      rw [wrap_i64 (n := valE (entOf t.es l.natAbs)) (by omega) (by omega), wrap_i64 (by omega) (by omega), Int.zero_sub]
      exact hK
    · rw [if_neg (by omega)] at hK
      refine ⟨by omega, by omega, ?_⟩
      have e : l.toNat = l.natAbs := by omega
      rw [e]
      refine ⟨_, h1.val (by omega), ?_⟩
      rw [h2.val _ (by omega)]
      dsimp only
      rw [wrap_i64 (n := valE (entOf t.es l.natAbs)) (by omega) (by omega)]
      exact hK
theorem level_spec {b : Nat} {t : Tr} {K : Value → Mem → Prop} {m : Mem} (h : TrAt m b t) (hK : K (.int .i64 t.dep) m) : callOK Tryz.prog W0 105 [ptr b 0] K m := by
  refine call105 ?_
  obtain ⟨g, c, h1, h2⟩ := h
  exact ⟨_, h1.depth, by rw [h2.depth]; exact hK⟩
theorem len_spec {b : Nat} {t : Tr} {K : Value → Mem → Prop} {m : Mem} (h : TrAt m b t) (hK : K (.int .i64 t.es.length) m) : callOK Tryz.prog W0 32 [ptr b 0] K m := by
  refine call32 ?_
  obtain ⟨g, c, h1, h2⟩ := h
  exact ⟨_, h1.top, by rw [h2.top]; exact hK⟩
theorem pending_spec {b : Nat} {t : Tr} {K : Value → Mem → Prop} {m : Mem} (h : TrAt m b t) (hK : K (.int .i64 ((t.es.length - t.cur : Nat) : Int)) m) : callOK Tryz.prog W0 100 [ptr b 0] K m := by
  refine call100 ?_
  obtain ⟨g, c, h1, h2⟩ := h
  refine ⟨_, h1.top, _, h1.cursor, ?_⟩
  have := g.cur; have := g.len
  rw [h2.top, h2.cursor]
  dsimp only
  rw [wrap_i64 (by omega) (by omega), show ((t.es.length : Int) - t.cur) = ((t.es.length - t.cur : Nat) : Int) by omega]
  exact hK
theorem at_spec {b : Nat} {t : Tr} {i : Int} {K : Value → Mem → Prop} {m : Mem} (h : TrAt m b t) (hK : K (.int .i64 (t.at i)) m) : callOK Tryz.prog W0 101 [ptr b 0, .int .i64 i] K m := by
  refine call101 ?_
  obtain ⟨g, c, h1, h2⟩ := h
  have := g.len
  unfold s101
  unfold Tr.at at hK
  refine ifB_lt (fun hn => ?_) (fun hn => ?_)
  · rw [if_neg (by omega)] at hK; exact hK
  · refine ⟨_, h1.top, ?_⟩
    rw [h2.top]
    refine ifB_ge (fun h3 => ?_) (fun h3 => ?_)
    · rw [if_neg (by omega)] at hK; exact hK
    · rw [if_pos (by omega)] at hK
      refine ⟨by omega, by omega, _, h1.stack (by omega), ?_⟩
      have hlt : i.toNat < t.es.length := by omega
      have e := h2.stack i.toNat t.es[i.toNat] (by simp [hlt])
      rw [e]
      simpa [hlt] using hK
theorem levelOf_spec {b : Nat} {t : Tr} {v : Int} {K : Value → Mem → Prop} {m : Mem} (h : TrAt m b t) (hK : K (.int .i64 (t.levOf v)) m) : callOK Tryz.prog W0 112 [ptr b 0, .int .i64 v] K m := by
  refine call112 ?_
  obtain ⟨g, c, h1, h2⟩ := h
  unfold s112
  unfold Tr.levOf at hK
  refine ifB_not (fun hg => ?_) (fun hg => ?_)
  · rw [if_neg (by rw [hg]; decide)] at hK; exact hK
  · rw [if_pos hg] at hK
    have hv := isVar_iff.1 hg
    refine ⟨by omega, by omega, _, h1.level (by omega), ?_⟩
    rw [h2.level _ (by omega), show v.toNat = v.natAbs by omega]; exact hK
theorem reason_spec {b : Nat} {t : Tr} {v : Int} {K : Value → Mem → Prop} {m : Mem} (h : TrAt m b t) (hK : K (.int .i64 (t.rsnOf v)) m) : callOK Tryz.prog W0 141 [ptr b 0, .int .i64 v] K m := by
  refine call141 ?_
  obtain ⟨g, c, h1, h2⟩ := h
  unfold s141
  unfold Tr.rsnOf at hK
  refine ifB_not (fun hg => ?_) (fun hg => ?_)
  · rw [if_neg (by rw [hg]; decide)] at hK; exact hK
  · rw [if_pos hg] at hK
    have hv := isVar_iff.1 hg
    refine ⟨by omega, by omega, _, h1.reason (by omega), ?_⟩
    rw [h2.reason _ (by omega), show v.toNat = v.natAbs by omega]; exact hK
theorem place_spec {b : Nat} {t : Tr} {v : Int} {K : Value → Mem → Prop} {m : Mem} (h : TrAt m b t) (hK : K (.int .i64 (t.plcOf v)) m) : callOK Tryz.prog W0 152 [ptr b 0, .int .i64 v] K m := by
  refine call152 ?_
  obtain ⟨g, c, h1, h2⟩ := h
  unfold s152
  unfold Tr.plcOf at hK
  refine ifB_not (fun hg => ?_) (fun hg => ?_)
  · rw [if_neg (by rw [hg]; decide)] at hK; exact hK
  · rw [if_pos hg] at hK
    have hv := isVar_iff.1 hg
    refine ⟨by omega, by omega, _, h1.place (by omega), ?_⟩
    rw [h2.place _ (by omega), show v.toNat = v.natAbs by omega]; exact hK

theorem entOf_append (es fs : List Ent) (v : Nat) : entOf (es ++ fs) v = (entOf es v).or (entOf fs v) := by
  induction es with
  | nil => simp [entOf]
  | cons e es ih =>
    simp only [List.cons_append, entOf]
    split
    · rfl
    · exact ih
theorem entOf_mem {es : List Ent} {v : Nat} {e : Ent} (h : entOf es v = some e) : e ∈ es ∧ e.lit.natAbs = v := by
  induction es with
  | nil => simp [entOf] at h
  | cons x xs ih =>
    simp only [entOf] at h
    split at h
    · cases h; rename_i h0; exact ⟨by simp, h0⟩
    · have := ih h; exact ⟨by simp [this.1], this.2⟩
theorem entOf_none {es : List Ent} {v : Nat} : entOf es v = none ↔ ∀ e ∈ es, e.lit.natAbs ≠ v := by
  induction es with
  | nil => simp [entOf]
  | cons x xs ih =>
    simp only [entOf]
    split
    · rename_i h0; simp [h0]
    · rename_i h0; simp [ih, h0]
theorem entOf_of {es : List Ent} (hv : es.Pairwise fun a b => a.lit.natAbs ≠ b.lit.natAbs) {e : Ent} (he : e ∈ es) : entOf es e.lit.natAbs = some e := by
  induction es with
  | nil => cases he
  | cons x xs ih =>
    simp only [entOf]
    rw [List.pairwise_cons] at hv
    rcases List.mem_cons.1 he with rfl | he
    · simp
    · rw [if_neg (hv.1 e he)]
      exact ih hv.2 he
theorem plcOf_none {es : List Ent} {i v : Nat} (h : ∀ e ∈ es, e.lit.natAbs ≠ v) : plcOf es i v = -1 := by
  induction es generalizing i with
  | nil => rfl
  | cons x xs ih =>
    simp only [plcOf]
    rw [if_neg (h x (by simp))]
    exact ih (fun e he => h e (by simp [he]))
theorem plcOf_append {es fs : List Ent} {i v : Nat} : plcOf (es ++ fs) i v = if entOf es v = none then plcOf fs (i + es.length) v else plcOf es i v := by
  induction es generalizing i with
  | nil => simp [entOf, plcOf]
  | cons x xs ih =>
    simp only [List.cons_append, plcOf, entOf, List.length_cons]
    split
    · simp
    · rw [ih, show i + 1 + xs.length = i + (xs.length + 1) by omega]
theorem stair_le {p d : Nat} {es : List Ent} (h : stair p es d) : p ≤ d ∧ d ≤ p + es.length ∧ ∀ e ∈ es, p ≤ e.lev ∧ e.lev ≤ d := by
  induction es generalizing p with
  | nil => simp only [stair] at h; subst h; simp
  | cons x xs ih =>
    obtain ⟨h1, h2⟩ := h
    have := ih h2
    simp only [List.length_cons]
    refine ⟨by omega, by omega, ?_⟩
    intro e he
    rcases List.mem_cons.1 he with rfl | he
    · omega
    · have := this.2.2 e he; omega
theorem stair_snoc {p d : Nat} {es : List Ent} (h : stair p es d) {e : Ent} (he : e.lev = d ∨ e.lev = d + 1) : stair p (es ++ [e]) e.lev := by
  induction es generalizing p with
  | nil => simp only [stair] at h; subst h; exact ⟨he, rfl⟩
  | cons x xs ih => exact ⟨h.1, ih h.2⟩
theorem stair_cut {p d k : Nat} {es : List Ent} (h : stair p es d) (hp : p ≤ k) (hk : k ≤ d) : stair p (es.takeWhile fun e => decide (e.lev < k + 1)) k := by
  induction es generalizing p with
  | nil => simp only [stair] at h; subst h; simp only [List.takeWhile_nil, stair]; omega
  | cons x xs ih =>
    obtain ⟨h1, h2⟩ := h
    have := stair_le h2
    by_cases hx : x.lev < k + 1
    · rw [List.takeWhile_cons_of_pos (by simpa using hx)]
      exact ⟨h1, ih h2 (by omega)⟩
    · rw [List.takeWhile_cons_of_neg (by simpa using hx)]
      simp only [stair]; omega

def Tr.join (t : Tr) (l : Int) (r : Int) : Tr := { es := t.es ++ [⟨l, t.dep, r⟩], cur := t.cur, dep := t.dep }
theorem limOf_snoc {es : List Ent} {e : Ent} {k d : Nat} (hst : stair 0 es d) (hk : k ≤ d) (hk0 : 1 ≤ k) : limOf (es ++ [e]) k = limOf es k := by
  have : ∀ p, p < k → stair p es d → limOf (es ++ [e]) k = limOf es k := by
    clear hst
    induction es with
    | nil => intro p hp h; simp only [stair] at h; omega
    | cons x xs ih =>
      intro p hp h
      unfold limOf
      simp only [List.cons_append, List.takeWhile_cons]
      split
      · rename_i hx
        have hx' : x.lev < k := by simpa using hx
        have := ih x.lev hx' h.2
        unfold limOf at this
        simp only [List.length_cons, this]
      · rfl
  exact this 0 (by omega) hst
theorem takeWhile_all {α : Type} {p : α → Bool} : ∀ {l : List α}, (∀ x ∈ l, p x = true) → l.takeWhile p = l
  | [], _ => rfl
  | x :: xs, h => by
    rw [List.takeWhile_cons_of_pos (h x (by simp)), takeWhile_all fun y hy => h y (by simp [hy])]

theorem nodup_le : ∀ (n : Nat) (l : List Nat), l.Nodup → (∀ x ∈ l, 1 ≤ x ∧ x ≤ n) → l.length ≤ n
  | 0, l, _, h => by
    cases l with
    | nil => simp
    | cons x xs => have := h x (by simp); omega
  | n + 1, l, hd, h => by
    have h1 := nodup_le n (l.erase (n + 1)) (hd.erase (n + 1)) (fun x hx => by
      have h2 := (hd.mem_erase_iff).1 hx
      have h3 := h x h2.2
      have h4 := h2.1
      omega)
    rw [List.length_erase] at h1
    split at h1 <;> omega
theorem limOf_all {es : List Ent} {k d : Nat} (hst : stair 0 es d) (hk : d < k) : limOf es k = es.length := by
  unfold limOf
  rw [takeWhile_all]
  intro e he
  have := (stair_le hst).2.2 e he
  simp; omega
theorem Tr.Good.join {t : Tr} (g : t.Good) {l r : Int} (hl : goGoodLit l = true) (ho : entOf t.es l.natAbs = none) (hlen : t.es.length < 12) : (t.join l r).Good := by
  refine ⟨?_, ?_, ?_, ?_, ?_⟩
  · intro e he
    simp only [Tr.join, List.mem_append, List.mem_cons, List.not_mem_nil, or_false] at he
    rcases he with he | rfl
    · exact g.lits e he
    · exact hl
  · simp only [Tr.join]
    rw [List.pairwise_append]
    refine ⟨g.vars, by simp, ?_⟩
    intro a ha b hb
    simp at hb
    subst hb
    exact entOf_none.1 ho a ha
  · have := g.cur; simp [Tr.join]; omega
  · simp [Tr.join]; omega
  · exact stair_snoc g.st (.inl rfl)

theorem Tr.Good.room {t : Tr} (g : t.Good) {v : Nat} (hv : 1 ≤ v ∧ v ≤ 12) (ho : entOf t.es v = none) : t.es.length < 12 := by
  have h1 : (v :: t.es.map fun e => e.lit.natAbs).Nodup := by
    rw [List.nodup_cons]
    refine ⟨?_, ?_⟩
    · intro h
      obtain ⟨e, he, h2⟩ := List.mem_map.1 h
      exact entOf_none.1 ho e he h2
    · rw [List.Nodup, List.pairwise_map]
      exact g.vars
  have h2 : ∀ x ∈ (v :: t.es.map fun e => e.lit.natAbs), 1 ≤ x ∧ x ≤ 12 := by
    intro x hx
    simp only [List.mem_cons, List.mem_map] at hx
    rcases hx with rfl | ⟨e, he, rfl⟩
    · omega
    · have := good_abs (g.lits e he); omega
  have := nodup_le 12 _ h1 h2
  simp at this
  omega
theorem join_raw {b : Nat} {c : TrC} {es : List Ent} {d : Nat} {l r : Int} {K : Value → Mem → Prop} {m : Mem} (h1 : TrB m b c) (h2 : TrRep0 c es) (hd : c.depth = d) (hl : goGoodLit l = true) (ho : entOf es l.natAbs = none) (hlen : es.length < 12)
    (hK : ∀ m' c', m'.Ok → Kp [b] m m' → TrB m' b c' → TrRep0 c' (es ++ [⟨l, d, r⟩]) → c'.cursor = c.cursor → c'.depth = c.depth → c'.lim = c.lim → K (.tuple #[]) m') : callOK Tryz.prog W0 68 [ptr b 0, .int .i64 l, .int .i64 (goVar l), .int .i64 r] K m := by
  refine callOK_ok fun ok => call68 ?_
  have ha := good_abs hl
  unfold s68
  rw [ha.2.2.2.2]
  refine ⟨_, h1.top, ?_⟩
  rw [h2.top]
  refine ⟨by omega, by omega, ?_⟩
  simp only [Int.toNat_natCast]
  refine h1.st_stack ok (by omega) ?_
  intro m1 ok1 kp1 b1
  refine ⟨by omega, by omega, ?_⟩
  simp only [Int.toNat_natCast]
  refine b1.st_val ok1 (by omega) ?_
  intro m2 ok2 kp2 b2
  have k2 := kp1.trans kp2
  have fin : ∀ (c' : TrC), c'.top = c.top + 1 → c'.stack = fupd c.stack es.length l → (∀ v, v < 13 → c'.val v = fupd c.val l.natAbs (if l < 0 then -1 else 1) v) →
      c'.level = fupd c.level l.natAbs c.depth → c'.reason = fupd c.reason l.natAbs r → c'.place = fupd c.place l.natAbs c.top → TrRep0 c' (es ++ [⟨l, d, r⟩]) := by
    intro c' e1 e4 e5 e6 e7 e8
    have hent : ∀ v, entOf (es ++ [⟨l, d, r⟩]) v = if v = l.natAbs then some ⟨l, d, r⟩ else entOf es v := by
      intro v
      rw [entOf_append]
      simp only [entOf]
      by_cases hv : v = l.natAbs
      · subst hv; rw [ho]; simp
      · rw [if_neg (fun h0 => hv h0.symm), if_neg hv]; simp
    refine ⟨by rw [e1, h2.top]; simp, ?_, ?_, ?_, ?_, ?_⟩
    · intro i e hi
      rw [e4]
      rw [List.getElem?_append] at hi
      split at hi
      · rename_i hlt
        rw [fupd_ne _ _ (by omega)]
        exact h2.stack i e hi
      · rename_i hge
        have hi0 : i = es.length := by
          rcases Nat.lt_or_ge (i - es.length) 1 with h | h
          · omega
          · rw [List.getElem?_eq_none (by simpa using h)] at hi; cases hi
        subst hi0
        simp at hi
        subst hi
        rw [fupd_at]
    · intro v hv
      rw [e5 v hv, hent]
      by_cases hv2 : v = l.natAbs
      · subst hv2; rw [fupd_at, if_pos rfl]; rfl
      · rw [fupd_ne _ _ hv2, if_neg hv2]; exact h2.val v hv
    · intro v hv
      rw [e6, hent]
      by_cases hv2 : v = l.natAbs
      · subst hv2; rw [fupd_at, if_pos rfl, hd]; rfl
      · rw [fupd_ne _ _ hv2, if_neg hv2]; exact h2.level v hv
    · intro v hv
      rw [e7, hent]
      by_cases hv2 : v = l.natAbs
      · subst hv2; rw [fupd_at, if_pos rfl]; rfl
      · rw [fupd_ne _ _ hv2, if_neg hv2]; exact h2.reason v hv
    · intro v hv
      rw [e8]
      rw [plcOf_append]
      by_cases hv2 : v = l.natAbs
      · subst hv2; rw [fupd_at, if_pos ho, h2.top]; simp [plcOf]
      · rw [fupd_ne _ _ hv2, h2.place v hv]
        split
        · rename_i hn
          rw [plcOf_none (entOf_none.1 hn)]
          simp only [plcOf]
          rw [if_neg (fun h0 => hv2 h0.symm)]
        · rfl
  have tail : ∀ (m3 : Mem) (c3 : TrC), m3.Ok → Kp [b] m m3 → TrB m3 b c3 → c3.top = c.top → c3.cursor = c.cursor → c3.depth = c.depth → c3.stack = fupd c.stack es.length l → (∀ v, v < 13 → c3.val v = fupd c.val l.natAbs (if l < 0 then -1 else 1) v) →
      c3.level = c.level → c3.reason = c.reason → c3.place = c.place → c3.lim = c.lim →
      ldInt .i64 m3 b 14 fun x_8 => ckI (l.natAbs : Int) 13 fun j_9 => st m3 b (28 + j_9) (.int .i64 x_8) fun m_10 => ckI (l.natAbs : Int) 13 fun j_11 => st m_10 b (41 + j_11) (.int .i64 r) fun m_12 =>
        ldInt .i64 m_12 b 12 fun x_13 => ckI (l.natAbs : Int) 13 fun j_14 => st m_12 b (54 + j_14) (.int .i64 x_13) fun m_15 => ldInt .i64 m_15 b 12 fun x_16 => st m_15 b 12 (.int .i64 (IntKind.wrap .i64 (x_16 + 1))) fun m_17 => K (.tuple #[]) m_17 := by
    intro m3 c3 ok3 k3 b3 e1 e2 e3 e4 e5 e6 e7 e8 e9
    refine ⟨_, b3.depth, by omega, by omega, ?_⟩
    simp only [Int.toNat_natCast]
    refine b3.st_level ok3 (by omega) ?_
    intro m4 ok4 kp4 b4
    refine ⟨by omega, by omega, ?_⟩
    simp only [Int.toNat_natCast]
    refine b4.st_reason ok4 (by omega) ?_
    intro m5 ok5 kp5 b5
    refine ⟨_, b5.top, by omega, by omega, ?_⟩
    simp only [Int.toNat_natCast]
    refine b5.st_place ok5 (by omega) ?_
    intro m6 ok6 kp6 b6
    refine ⟨_, b6.top, ?_⟩
    have ht := h2.top
    have hw : IntKind.wrap .i64 (c3.top + 1) = c3.top + 1 := wrap_i64 (by omega) (by omega)
    dsimp only
    rw [hw]
    refine b6.st_top ok6 ?_
    intro m7 ok7 kp7 b7
    refine hK m7 _ ok7 ((((k3.trans kp4).trans kp5).trans kp6).trans kp7) b7 (fin _ ?_ e4 e5 ?_ ?_ ?_) e2 e3 e9
    · dsimp only; rw [e1]
    · dsimp only; rw [e6, e3]
    · dsimp only; rw [e7]
    · dsimp only; rw [e8, e1]
  refine ifB_lt (fun hn => ?_) (fun hn => ?_)
  · refine ⟨by omega, by omega, ?_⟩
    simp only [Int.toNat_natCast]
    refine b2.st_val ok2 (by omega) ?_
    intro m3 ok3 kp3 b3
    refine tail m3 _ ok3 (k2.trans kp3) b3 rfl rfl rfl rfl ?_ rfl rfl rfl rfl
    intro v hv
    dsimp only
    rw [if_pos hn]
    simp only [fupd]
    split <;> rfl
  · refine tail m2 _ ok2 k2 b2 rfl rfl rfl rfl ?_ rfl rfl rfl rfl
    intro v hv
    dsimp only
    rw [if_neg (by omega)]
theorem join_spec {b : Nat} {t : Tr} {l r : Int} {K : Value → Mem → Prop} {m : Mem} (h : TrAt m b t) (hl : goGoodLit l = true) (ho : entOf t.es l.natAbs = none)
    (hK : ∀ m', m'.Ok → Kp [b] m m' → TrAt m' b (t.join l r) → K (.tuple #[]) m') : callOK Tryz.prog W0 68 [ptr b 0, .int .i64 l, .int .i64 (goVar l), .int .i64 r] K m := by
  obtain ⟨g, c, h1, h2⟩ := h
  have ha := good_abs hl
  have hlen := g.room ⟨ha.2.1, ha.2.2.1⟩ ho
  refine join_raw h1 h2.zero h2.depth hl ho hlen ?_
  intro m1 c1 ok1 kp1 b1 r1 e1 e2 e3
  refine hK m1 ok1 kp1 ⟨g.join hl ho hlen, c1, b1, ?_⟩
  refine ⟨r1.top, by rw [e1]; exact h2.cursor, by rw [e2]; exact h2.depth, r1.stack, r1.val, r1.level, r1.reason, r1.place, ?_⟩
  intro k hk0 hk
  rw [e3]
  simp only [Tr.join] at hk ⊢
  rw [limOf_snoc g.st hk hk0]
  exact h2.lim k hk0 hk
end Go.Proofs.Qxb6500974aGreat
