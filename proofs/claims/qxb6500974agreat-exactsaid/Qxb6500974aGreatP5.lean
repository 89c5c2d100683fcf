import Derived.Test.Qxb6500974aGreatP4
import Derived.Test.Qxb6500974aGreatR20
set_option linter.all false
set_option linter.unusedSimpArgs false
set_option linter.unusedVariables false
namespace Go.Proofs.Qxb6500974aGreat
open Go.Eng

theorem pl_ext {t t' : Tr} {e : Ent} (h : t'.es = t.es ++ [e]) {i : Nat} {x : Int} : t'.pl i x ↔ t.pl i x ∨ (i = t.es.length ∧ x = e.lit) := by
  have hj := pl_snoc (t := { t with dep := e.lev }) (l := e.lit) (r := e.rsn) (i := i) (x := x)
  unfold Tr.pl at hj ⊢
  rw [h]
  exact hj
theorem tr_ext {t t' : Tr} {e : Ent} (h : t'.es = t.es ++ [e]) {x : Int} : t'.tr x ↔ t.tr x ∨ x = e.lit := by
  have hj := tr_snoc (t := { t with dep := e.lev }) (l := e.lit) (r := e.rsn) (x := x)
  unfold Tr.tr at hj ⊢
  rw [h]
  exact hj
theorem Hold.ext {t t' : Tr} {e : Ent} (h : t'.es = t.es ++ [e]) {cur : Nat} {a o : Int} (hh : Hold t cur a o) (hc : cur ≤ t.es.length) : Hold t' cur a o := by
  rcases hh with h1 | ⟨i, h1, h2⟩
  · by_cases he : -a = e.lit
    · exact .inr ⟨t.es.length, (pl_ext h).2 (.inr ⟨rfl, he⟩), .inl hc⟩
    · exact .inl fun h0 => ((tr_ext h).1 h0).elim h1 he
  · refine .inr ⟨i, (pl_ext h).2 (.inl h1), h2.orMap id ?_⟩
    rintro ⟨j, hj, h3⟩
    exact ⟨j, hj, (pl_ext h).2 (.inl h3)⟩
theorem PI.decide {w : Wt} {t : Tr} {l : Int} (h : PI w t t.cur) (hl : goGoodLit l = true) (ho : entOf t.es l.natAbs = none) : PI w (t.decide l) (t.decide l).cur := by
  have he : (t.decide l).es = t.es ++ [⟨l, t.dep + 1, -1⟩] := rfl
  have hg := good_abs hl
  have tg' : (t.decide l).Good := h.tg.decide hl ho (h.tg.room (by omega) ho)
  have hc := h.tg.cur
  refine ⟨h.wg, tg', ?_, fun id hid => ?_⟩
  · intro i e hi
    rw [he, List.getElem?_append] at hi
    split at hi
    · rename_i hlt
      rcases h.rs i e hi with ⟨h1, h2⟩ | ⟨r, h1, h2, h3, h4, h5, h6⟩
      · exact .inl ⟨h1, by rw [he, prevL_snoc (by omega)]; exact h2⟩
      · refine .inr ⟨r, h1, h2, h3, h4, by rw [he, prevL_snoc (by omega)]; exact h5, fun x hx hne => ?_⟩
        obtain ⟨j, hj, h7⟩ := h6 x hx hne
        exact ⟨j, hj, (pl_ext he).2 (.inl h7)⟩
    · rename_i hge
      have : i - t.es.length < 1 := by
        rcases Nat.lt_or_ge (i - t.es.length) 1 with h | h
        · exact h
        · rw [List.getElem?_eq_none (by simpa using h)] at hi; cases hi
      have hi2 : i = t.es.length := by omega
      subst hi2
      simp at hi
      subst hi
      exact .inl ⟨rfl, by rw [he, prevL_snoc (Nat.le_refl _), prevL_len h.tg]⟩
  · have := h.hd id hid
    exact ⟨this.1.ext he hc, this.2.ext he hc⟩

theorem split_stair (k : Nat) : ∀ (es : List Ent) (p d : Nat), stair p es d → ∃ rest, es = (es.takeWhile fun e => decide (e.lev < k + 1)) ++ rest ∧ (∀ e ∈ es.takeWhile fun e => decide (e.lev < k + 1), e.lev ≤ k) ∧ ∀ e ∈ rest, k < e.lev
  | [], _, _, _ => ⟨[], by simp⟩
  | x :: xs, p, d, h => by
    by_cases hx : x.lev < k + 1
    · obtain ⟨rest, h1, h2, h3⟩ := split_stair k xs x.lev d h.2
      have e : (x :: xs).takeWhile (fun e => decide (e.lev < k + 1)) = x :: xs.takeWhile fun e => decide (e.lev < k + 1) := by
        rw [List.takeWhile_cons, if_pos (by simpa using hx)]
      rw [e]
      refine ⟨rest, by rw [List.cons_append, ← h1], ?_, h3⟩
      intro y hy
      rcases List.mem_cons.1 hy with rfl | hy
      · omega
      · exact h2 y hy
    · have e : (x :: xs).takeWhile (fun e => decide (e.lev < k + 1)) = [] := by
        rw [List.takeWhile_cons, if_neg (by simpa using hx)]
      rw [e]
      refine ⟨x :: xs, rfl, by simp, ?_⟩
      intro y hy
      rcases List.mem_cons.1 hy with rfl | hy
      · omega
      · have := (stair_le h.2).2.2 y hy; omega
theorem back_split {t : Tr} (g : t.Good) (k : Nat) : ∃ rest, t.es = (t.back k).es ++ rest ∧ (∀ e ∈ (t.back k).es, e.lev ≤ k) ∧ ∀ e ∈ rest, k < e.lev := split_stair k t.es 0 t.dep g.st
theorem back_tr {t : Tr} (g : t.Good) {k : Nat} {x : Int} : (t.back k).tr x ↔ ∃ e ∈ t.es, e.lit = x ∧ e.lev ≤ k := by
  obtain ⟨rest, h1, h2, h3⟩ := back_split g k
  unfold Tr.tr
  constructor
  · rintro ⟨e, he, rfl⟩
    exact ⟨e, by rw [h1]; exact List.mem_append_left _ he, rfl, h2 e he⟩
  · rintro ⟨e, he, rfl, hl⟩
    rw [h1, List.mem_append] at he
    rcases he with he | he
    · exact ⟨e, he, rfl⟩
    · have := h3 e he; omega
theorem pl_pre {t t' : Tr} {rest : List Ent} (h : t.es = t'.es ++ rest) {i : Nat} {x : Int} : t'.pl i x ↔ t.pl i x ∧ i < t'.es.length := by
  constructor
  · rintro ⟨e, he, rfl⟩
    have hl := pl_lt (t := t') ⟨e, he, rfl⟩
    exact ⟨⟨e, by rw [h, List.getElem?_append_left hl]; exact he, rfl⟩, hl⟩
  · rintro ⟨⟨e, he, rfl⟩, hl⟩
    rw [h, List.getElem?_append_left hl] at he
    exact ⟨e, he, rfl⟩
theorem prevL_pre {a b : List Ent} : ∀ {i : Nat}, i ≤ a.length → prevL (a ++ b) i = prevL a i
  | 0, _ => rfl
  | i + 1, h => by simp only [prevL]; rw [List.getElem?_append_left (by omega)]
theorem PI.back {w : Wt} {t : Tr} (h : PI w t t.cur) {k : Nat} (hk : k ≤ t.dep) : PI w (t.back k) (t.back k).cur := by
  obtain ⟨rest, h1, h2, h3⟩ := back_split h.tg k
  refine ⟨h.wg, h.tg.back hk, ?_, ?_⟩
  · intro i e hi
    have hl : i < (t.back k).es.length := ent_lt hi
    have hi2 : t.es[i]? = some e := by rw [h1, List.getElem?_append_left hl]; exact hi
    have hp : prevL t.es i = prevL (t.back k).es i := by
      have := prevL_pre (a := (t.back k).es) (b := rest) (i := i) (by omega)
      rw [← h1] at this
      exact this
    rcases h.rs i e hi2 with ⟨a1, a2⟩ | ⟨r, a1, a2, a3, a4, a5, a6⟩
    · exact .inl ⟨a1, by rw [← hp]; exact a2⟩
    · refine .inr ⟨r, a1, a2, a3, a4, by rw [← hp]; exact a5, fun x hx hne => ?_⟩
      obtain ⟨j, hj, hpj⟩ := a6 x hx hne
      exact ⟨j, hj, (pl_pre h1).2 ⟨hpj, by omega⟩⟩
  · have hc : (t.back k).cur ≤ t.cur := Nat.min_le_left _ _
    have key : ∀ a o, Hold t t.cur a o → Hold (t.back k) (t.back k).cur a o := by
      intro a o hh
      rcases hh with hh | ⟨i, b1, b2⟩
      · refine .inl fun h0 => hh ?_
        obtain ⟨i, hi⟩ := tr_pl.1 h0
        exact tr_pl.2 ⟨i, ((pl_pre h1).1 hi).1⟩
      · by_cases hl : i < (t.back k).es.length
        · refine .inr ⟨i, (pl_pre h1).2 ⟨b1, hl⟩, ?_⟩
          rcases b2 with b2 | ⟨j, hj, b3⟩
          · exact .inl (by omega)
          · exact .inr ⟨j, hj, (pl_pre h1).2 ⟨b3, by omega⟩⟩
        · refine .inl fun h0 => ?_
          obtain ⟨j, hj⟩ := tr_pl.1 h0
          have hj2 := (pl_pre h1).1 hj
          have := pl_inj h.tg b1 hj2.1 rfl
          omega
    intro id hid
    have := h.hd id hid
    exact ⟨key _ _ this.1, key _ _ this.2⟩

theorem back_dec {w : Wt} {t : Tr} (h : PI w t t.cur) {k : Nat} (hk : k < t.dep) : ∃ d rest, t.es = (t.back k).es ++ d :: rest ∧ d.rsn = -1 ∧ k < d.lev := by
  obtain ⟨rest, h1, h2, h3⟩ := back_split h.tg k
  cases rest with
  | nil =>
    exfalso
    rw [List.append_nil] at h1
    have hlen : t.es ≠ [] := by
      intro h0
      have hs := h.tg.st
      rw [h0] at hs
      simp only [stair] at hs
      omega
    have hl := stair_last h.tg.st hlen
    have hpos : t.es.length - 1 < t.es.length := by
      have : 0 < t.es.length := List.length_pos_iff.2 hlen
      omega
    rw [List.getElem?_eq_getElem hpos] at hl
    simp at hl
    have := h2 (t.es[t.es.length - 1]) (by rw [← h1]; exact List.getElem_mem hpos)
    omega
  | cons d rest =>
    refine ⟨d, rest, h1, ?_, h3 d (by simp)⟩
    have hd : t.es[(t.back k).es.length]? = some d := by rw [h1]; simp
    have hpl : prevL t.es (t.back k).es.length ≤ k := by
      cases hm : (t.back k).es.length with
      | zero => simp [prevL]
      | succ m =>
        simp only [prevL]
        have hlt : m < (t.back k).es.length := by omega
        have : t.es[m]? = some ((t.back k).es[m]) := by rw [h1, List.getElem?_append_left hlt, List.getElem?_eq_getElem hlt]
        rw [this]
        simp
        exact h2 _ (List.getElem_mem hlt)
    have hlev := h3 d (by simp)
    rcases h.rs _ d hd with ⟨a1, _⟩ | ⟨r, a1, a2, a3, a4, a5, a6⟩
    · exact a1
    · omega

def numT : List Ent → Nat → Nat
  | [], _ => 0
  | e :: es, k => (if e.rsn ≥ 0 then 2 ^ (11 - k) else 0) + numT es (k + 1)
theorem numT_append : ∀ (a b : List Ent) (k : Nat), numT (a ++ b) k = numT a k + numT b (k + a.length)
  | [], b, k => by simp [numT]
  | e :: a, b, k => by
    simp only [List.cons_append, numT, numT_append a b (k + 1), List.length_cons]
    rw [show k + 1 + a.length = k + (a.length + 1) by omega]
    omega
theorem numT_lt : ∀ (es : List Ent) (k : Nat), k + es.length ≤ 12 → numT es k + 1 ≤ 2 ^ (12 - k)
  | [], k, h => by simp [numT]; exact Nat.one_le_two_pow
  | e :: es, k, h => by
    simp only [List.length_cons] at h
    simp only [numT]
    have ih := numT_lt es (k + 1) (by omega)
    have e1 : 12 - (k + 1) = 11 - k := by omega
    have e2 : 2 ^ (12 - k) = 2 ^ (11 - k) + 2 ^ (11 - k) := by
      rw [show 12 - k = (11 - k) + 1 by omega, Nat.pow_succ]; omega
    rw [e1] at ih
    split <;> omega
def Tr.num (t : Tr) : Nat := numT t.es 0
theorem num_le {t : Tr} (g : t.Good) : t.num ≤ 4095 := by
  have := numT_lt t.es 0 (by have := g.len; omega)
  unfold Tr.num
  have e : 2 ^ (12 - 0) = 4096 := rfl
  omega
theorem num_le' {t : Tr} (hl : t.es.length ≤ 11) : t.num + 2 ^ (11 - t.es.length) ≤ 4095 := by
  have := numT_lt (t.es ++ [⟨1, 0, 0⟩]) 0 (by simp; omega)
  rw [numT_append] at this
  simp only [numT, Nat.zero_add] at this
  unfold Tr.num
  have e : 2 ^ (12 - 0) = 4096 := rfl
  simp at this
  omega
theorem num_up {t t' : Tr} (h : UpX t t') : t.num ≤ t'.num := by
  obtain ⟨_, fs, h2⟩ := h
  unfold Tr.num
  rw [h2, numT_append]; omega
theorem num_back {w : Wt} {t : Tr} (h : PI w t t.cur) {k : Nat} (hk : k < t.dep) : t.num + 1 ≤ (t.back k).num + 2 ^ (11 - (t.back k).es.length) ∧ (t.back k).es.length ≤ 11 := by
  obtain ⟨d, rest, h1, h2, h3⟩ := back_dec h hk
  have hlen := h.tg.len
  have hl := congrArg List.length h1
  simp only [List.length_append, List.length_cons] at hl
  have := numT_lt rest ((t.back k).es.length + 1) (by omega)
  refine ⟨?_, by omega⟩
  unfold Tr.num
  rw [h1, numT_append]
  simp only [numT]
  rw [if_neg (by omega)]
  have e1 : 12 - ((t.back k).es.length + 1) = 11 - (t.back k).es.length := by omega
  rw [e1] at this
  simp only [Nat.zero_add]
  omega
end Go.Proofs.Qxb6500974aGreat
