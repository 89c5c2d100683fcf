import Derived.Test.Qxb6500974aGreatLib
set_option linter.all false
set_option linter.unusedSimpArgs false
set_option linter.unusedVariables false
namespace Go.Eng

structure Elt (α : Type) where
  sz : Nat
  rep : Mem → List Value → α → Prop
  pos : 0 < sz
  len : ∀ {m cs x}, rep m cs x → cs.length = sz
  one : ∀ {m cs x}, rep m cs x → ∀ v ∈ cs, oneC v = true
  keep : ∀ {S m m' cs x}, Kp S m m' → rep m cs x → rep m' cs x

section
variable {α : Type} (E : Elt α)

def plainA (a : Option Addr) : Prop := a = none ∨ ∃ b o, a = some ⟨b, o, none⟩

def Elt.reps (m : Mem) : List (List Value) → List α → Prop
  | [], [] => True
  | cs :: css, x :: xs => E.rep m cs x ∧ Elt.reps m css xs
  | _, _ => False
def Elt.own (m : Mem) (a : Option Addr) (n c : Nat) (L : List α) : Prop := n = L.length ∧ ∃ css, OwnV m a n c E.sz css.flatten ∧ E.reps m css L
def Elt.sl (m : Mem) (a : Option Addr) (n : Nat) (L : List α) : Prop :=
  n = L.length ∧ ((L = [] ∧ plainA a) ∨ ∃ b o, a = some ⟨b, o, none⟩ ∧ ∀ i x, L[i]? = some x → ∃ cs, E.rep m cs x ∧ m.row b (o + i * E.sz) cs)
def Elt.fz (m : Mem) (a : Option Addr) (n : Nat) (L : List α) : Prop :=
  n = L.length ∧ ((L = [] ∧ plainA a) ∨ ∃ b o f, a = some ⟨b, o, none⟩ ∧ m.blk b = some f ∧ f.wr = false ∧ ∀ i x, L[i]? = some x → ∃ cs, E.rep m cs x ∧ m.row b (o + i * E.sz) cs)

variable {E}
theorem Elt.reps_keep {S : List Nat} {m m' : Mem} (hk : Kp S m m') : ∀ {css : List (List Value)} {L : List α}, E.reps m css L → E.reps m' css L
  | [], [], _ => trivial
  | _ :: _, _ :: _, h => ⟨E.keep hk h.1, Elt.reps_keep hk h.2⟩
  | [], _ :: _, h => h.elim
  | _ :: _, [], h => h.elim
theorem Elt.reps_len {m : Mem} : ∀ {css : List (List Value)} {L : List α}, E.reps m css L → css.flatten.length = L.length * E.sz ∧ css.length = L.length
  | [], [], _ => by simp
  | cs :: css, x :: xs, h => by
    have h1 := E.len h.1
    have h2 := Elt.reps_len h.2
    simp only [List.flatten_cons, List.length_append, List.length_cons, h1, h2.1, h2.2, Nat.add_mul, and_true]
    omega
  | [], _ :: _, h => h.elim
  | _ :: _, [], h => h.elim
theorem Elt.reps_one {m : Mem} : ∀ {css : List (List Value)} {L : List α}, E.reps m css L → ∀ v ∈ css.flatten, oneC v = true
  | [], [], _, v, hv => by simp at hv
  | cs :: css, x :: xs, h, v, hv => by
    simp only [List.flatten_cons, List.mem_append] at hv
    rcases hv with hv | hv
    · exact E.one h.1 v hv
    · exact Elt.reps_one h.2 v hv
  | [], _ :: _, h, _, _ => h.elim
  | _ :: _, [], h, _, _ => h.elim
theorem Elt.reps_append {m : Mem} : ∀ {css : List (List Value)} {L : List α} {css' : List (List Value)} {L' : List α}, E.reps m css L → E.reps m css' L' → E.reps m (css ++ css') (L ++ L')
  | [], [], _, _, _, h' => h'
  | _ :: _, _ :: _, _, _, h, h' => ⟨h.1, Elt.reps_append h.2 h'⟩
  | [], _ :: _, _, _, h, _ => h.elim
  | _ :: _, [], _, _, h, _ => h.elim
theorem Elt.reps_at {m : Mem} : ∀ {css : List (List Value)} {L : List α}, E.reps m css L → ∀ {i : Nat} {x : α}, L[i]? = some x → ∃ cs, E.rep m cs x ∧ ∀ j v, cs[j]? = some v → css.flatten[i * E.sz + j]? = some v
  | [], [], _, i, x, hi => by simp at hi
  | cs :: css, x :: xs, h, i, y, hi => by
    cases i with
    | zero =>
      simp at hi
      subst hi
      refine ⟨cs, h.1, fun j v hj => ?_⟩
      have hlt : j < cs.length := by
        rcases Nat.lt_or_ge j cs.length with h' | h'
        · exact h'
        · simp [List.getElem?_eq_none h'] at hj
      simp only [Nat.zero_mul, Nat.zero_add, List.flatten_cons]
      rw [List.getElem?_append_left hlt]
      exact hj
    | succ i =>
      obtain ⟨cs', h1, h2⟩ := Elt.reps_at h.2 (i := i) (x := y) (by simpa using hi)
      refine ⟨cs', h1, fun j v hj => ?_⟩
      have hl := E.len h.1
      simp only [List.flatten_cons]
      rw [List.getElem?_append_right (by rw [hl, Nat.add_mul]; omega), hl, show (i + 1) * E.sz + j - E.sz = i * E.sz + j by rw [Nat.add_mul]; omega]
      exact h2 j v hj
  | [], _ :: _, h, _, _, _ => h.elim
  | _ :: _, [], h, _, _, _ => h.elim

theorem Elt.gather {m : Mem} {b : Nat} : ∀ {L : List α} {o : Nat}, (∀ i x, L[i]? = some x → ∃ cs, E.rep m cs x ∧ m.row b (o + i * E.sz) cs) → ∃ css, E.reps m css L ∧ m.row b o css.flatten
  | [], _, _ => ⟨[], trivial, trivial⟩
  | x :: xs, o, h => by
    obtain ⟨cs, h1, h2⟩ := h 0 x (by simp)
    obtain ⟨css, h3, h4⟩ := Elt.gather (L := xs) (o := o + E.sz) (fun i y hi => by
      obtain ⟨cs, h5, h6⟩ := h (i + 1) y (by simpa using hi)
      exact ⟨cs, h5, by rw [show o + E.sz + i * E.sz = o + (i + 1) * E.sz by rw [Nat.add_mul]; omega]; exact h6⟩)
    refine ⟨cs :: css, ⟨h1, h3⟩, ?_⟩
    have hl := E.len h1
    refine row_of fun i v hi => ?_
    simp only [List.flatten_cons] at hi
    rw [List.getElem?_append] at hi
    split at hi
    · have := row_get h2 hi
      simpa using this
    · have := row_get h4 hi
      rw [show o + i = o + E.sz + (i - cs.length) by omega]
      exact this

theorem Elt.sl.len {m : Mem} {a : Option Addr} {n : Nat} {L : List α} (h : E.sl m a n L) : n = L.length := h.1
theorem Elt.fz.len {m : Mem} {a : Option Addr} {n : Nat} {L : List α} (h : E.fz m a n L) : n = L.length := h.1
theorem Elt.own.len {m : Mem} {a : Option Addr} {n c : Nat} {L : List α} (h : E.own m a n c L) : n = L.length := h.1
theorem Elt.sl.nil (m : Mem) : E.sl m none 0 [] := ⟨rfl, .inl ⟨rfl, .inl rfl⟩⟩
theorem Elt.fz.nil (m : Mem) : E.fz m none 0 [] := ⟨rfl, .inl ⟨rfl, .inl rfl⟩⟩
theorem Elt.sl.plain {m : Mem} {a : Option Addr} {n : Nat} {L : List α} (h : E.sl m a n L) : plainA a := by
  rcases h.2 with h | ⟨b, o, h, _⟩
  · exact h.2
  · exact .inr ⟨b, o, h⟩
theorem Elt.own.nil (m : Mem) : E.own m none 0 0 [] := ⟨rfl, [], OwnV.nil m _, trivial⟩
theorem Elt.fz.sl {m : Mem} {a : Option Addr} {n : Nat} {L : List α} (h : E.fz m a n L) : E.sl m a n L :=
  ⟨h.1, h.2.orMap id fun ⟨b, o, f, h1, h2, h3, h4⟩ => ⟨b, o, h1, h4⟩⟩
theorem Elt.own.sl {m : Mem} {a : Option Addr} {n c : Nat} {L : List α} (h : E.own m a n c L) : E.sl m a n L := by
  obtain ⟨h0, css, h1, h2⟩ := h
  refine ⟨h0, ?_⟩
  have hpl : plainA a := by
    rcases h1.2.2 with ⟨h, _⟩ | ⟨b, _, h, _⟩
    · exact .inl h
    · exact .inr ⟨b, 0, h⟩
  rcases h1.row with h3 | ⟨b, h3, h4⟩
  · left
    refine ⟨?_, hpl⟩
    have := (Elt.reps_len h2).1
    rw [h3] at this
    simp only [List.length_nil] at this
    have hp := E.pos
    rcases Nat.mul_eq_zero.1 this.symm with h5 | h5
    · exact List.eq_nil_of_length_eq_zero h5
    · omega
  · right
    refine ⟨b, 0, h3, fun i x hi => ?_⟩
    obtain ⟨cs, h5, h6⟩ := Elt.reps_at h2 hi
    refine ⟨cs, h5, row_of fun j v hj => ?_⟩
    have := row_get h4 (h6 j v hj)
    rw [show 0 + i * E.sz + j = 0 + (i * E.sz + j) by omega]
    exact this
theorem Elt.fz.keep {S : List Nat} {m m' : Mem} {a : Option Addr} {n : Nat} {L : List α} (h : E.fz m a n L) (hk : Kp S m m') : E.fz m' a n L := by
  refine ⟨h.1, h.2.orMap id ?_⟩
  rintro ⟨b, o, f, h1, h2, h3, h4⟩
  refine ⟨b, o, f, h1, hk.fz b f h2 h3, h3, fun i x hi => ?_⟩
  obtain ⟨cs, h5, h6⟩ := h4 i x hi
  refine ⟨cs, E.keep hk h5, row_of fun j v hj => ?_⟩
  have := row_get h6 hj
  simp only [Mem.cell, h2, hk.fz b f h2 h3] at this ⊢
  exact this
theorem Elt.sl.keep {S : List Nat} {m m' : Mem} {a : Option Addr} {n : Nat} {L : List α} (h : E.sl m a n L) (hk : Kp S m m') (hs : L ≠ [] → ∀ b ∈ blkOf a, b ∉ S) : E.sl m' a n L := by
  obtain ⟨h0, h⟩ := h
  by_cases he : L = []
  · subst he
    rcases h with h | ⟨b, o, h1, _⟩
    · exact ⟨h0, .inl h⟩
    · exact ⟨h0, .inl ⟨rfl, .inr ⟨b, o, h1⟩⟩⟩
  · rcases h with h | ⟨b, o, h1, h2⟩
    · exact absurd h.1 he
    · refine ⟨h0, .inr ⟨b, o, h1, fun i x hi => ?_⟩⟩
      obtain ⟨cs, h3, h4⟩ := h2 i x hi
      exact ⟨cs, E.keep hk h3, hk.row (hs he b (by simp [h1, blkOf])) h4⟩
theorem Elt.sl.lt {m : Mem} (ok : m.Ok) {a : Option Addr} {n : Nat} {L : List α} (h : E.sl m a n L) (he : L ≠ []) : ∀ b ∈ blkOf a, b < m.top := by
  intro b hb
  rcases h.2 with h | ⟨b', o, rfl, h2⟩
  · exact absurd h.1 he
  · simp [blkOf] at hb
    subst hb
    cases L with
    | nil => exact absurd rfl he
    | cons x xs =>
      obtain ⟨cs, h3, h4⟩ := h2 0 x (by simp)
      cases cs with
      | nil => have := E.len h3; have := E.pos; simp at *; omega
      | cons v vs =>
        have := h4.1
        unfold Mem.cell at this
        cases hm : m.blk b with
        | none => simp [hm] at this
        | some f => exact ok b f hm
theorem Elt.sl.keep0 {m m' : Mem} {a : Option Addr} {n : Nat} {L : List α} (h : E.sl m a n L) (hk : Kp [] m m') : E.sl m' a n L := h.keep hk (fun _ _ _ => by simp)
theorem Elt.own.keep {S : List Nat} {m m' : Mem} {a : Option Addr} {n c : Nat} {L : List α} (h : E.own m a n c L) (hk : Kp S m m') (hs : ∀ b ∈ blkOf a, b ∉ S) : E.own m' a n c L := by
  obtain ⟨h0, css, h1, h2⟩ := h
  exact ⟨h0, css, h1.keep hk hs, Elt.reps_keep hk h2⟩
theorem Elt.own.keep0 {m m' : Mem} {a : Option Addr} {n c : Nat} {L : List α} (h : E.own m a n c L) (hk : Kp [] m m') : E.own m' a n c L := h.keep hk (fun _ _ => by simp)
theorem Elt.own.lt {m : Mem} (ok : m.Ok) {a : Option Addr} {n c : Nat} {L : List α} (h : E.own m a n c L) : ∀ b ∈ blkOf a, b < m.top := by
  obtain ⟨_, css, h1, _⟩ := h
  exact h1.lt ok

theorem Elt.app1 {m : Mem} {a : Option Addr} {n c by_ : Nat} {z new : List Value} {L : List α} {x : α} {K : Option Addr → Nat → Mem → Prop} {sz : Nat} (ok : m.Ok) (h : E.own m a n c L) (hx : E.rep m new x)
    (hs : sz = E.sz) (hz : z.length = sz) (hby : 0 < by_) (hsmall : (4 * (n + 1) + 1024) * by_ ≤ 2 ^ 48)
    (hK : ∀ a' c' m', m'.Ok → Kp (blkOf a) m m' → E.own m' a' (n + 1) c' (L ++ [x]) → InS (blkOf a) m (blkOf a') → K a' c' m') :
    allocB m (Blk.ofList new) fun b m5 => rdRow m5 (some ⟨b, 0, none⟩) (1 * sz) fun r => appendC m5 sz by_ z a n c 1 r fun a' c' m' => K a' c' m' := by
  subst hs
  obtain ⟨h0, css, h1, h2⟩ := h
  refine append1 ok h1 hz E.pos (E.len hx) (E.one hx) hby hsmall ?_
  intro a' c' m' ok' kp' own' in'
  refine hK a' c' m' ok' kp' ⟨by simp [h0], css ++ [new], by simpa using own', Elt.reps_append (Elt.reps_keep kp' h2) ⟨E.keep kp' hx, trivial⟩⟩ in'

theorem Elt.appL {m : Mem} {a t : Option Addr} {n c k kk by_ : Nat} {z : List Value} {L L' : List α} {K : Option Addr → Nat → Mem → Prop} {sz : Nat} (ok : m.Ok) (h : E.own m a n c L) (ht : E.sl m t k L')
    (hkk : kk = k * sz) (hs : sz = E.sz) (hz : z.length = sz) (hby : 0 < by_) (hsmall : (4 * (n + k) + 1024) * by_ ≤ 2 ^ 48)
    (hK : ∀ a' c' m', m'.Ok → Kp (blkOf a) m m' → E.own m' a' (n + k) c' (L ++ L') → InS (blkOf a) m (blkOf a') → K a' c' m') :
    rdRow m t kk fun r => appendC m sz by_ z a n c k r fun a' c' m' => K a' c' m' := by
  subst hs
  subst hkk
  obtain ⟨h0, css, h1, h2⟩ := h
  obtain ⟨ht0, ht1⟩ := ht
  have key : ∀ css', E.reps m css' L' → appendC m E.sz by_ z a n c k css'.flatten fun a' c' m' => K a' c' m' := by
    intro css' h3
    refine appendV ok h1 hz E.pos (by rw [(Elt.reps_len h3).1, ht0]) (Elt.reps_one h3) hby hsmall ?_
    intro a' c' m' ok' kp' own' in'
    exact hK a' c' m' ok' kp' ⟨by simp [h0, ht0], css ++ css', by simpa using own', Elt.reps_append (Elt.reps_keep kp' h2) (Elt.reps_keep kp' h3)⟩ in'
  rcases ht1 with ⟨rfl, hta⟩ | ⟨b, o, rfl, h3⟩
  · simp only [List.length_nil] at ht0
    subst ht0
    rcases hta with rfl | ⟨b, o, rfl⟩
    · exact ⟨by simp, key [] trivial⟩
    · exact ⟨[], by simp, trivial, key [] trivial⟩
  · obtain ⟨css', h4, h5⟩ := Elt.gather h3
    exact ⟨_, by rw [(Elt.reps_len h4).1, ht0], h5, key css' h4⟩

theorem Elt.sl.sub {m : Mem} {a : Option Addr} {n : Nat} {L : List α} (h : E.sl m a n L) {lo hi c : Nat} (h1 : lo ≤ hi) (h2 : hi ≤ n) (hc : n ≤ c) : E.sl m (slA a lo c E.sz) (hi - lo) ((L.take hi).drop lo) := by
  have hpl := h.plain
  obtain ⟨h0, h3⟩ := h
  refine ⟨by simp; omega, ?_⟩
  have hpl2 : plainA (slA a lo c E.sz) := by
    unfold slA
    split
    · exact hpl
    · rcases hpl with rfl | ⟨b, o, rfl⟩
      · exact .inl rfl
      · simp only [Option.map_some, Addr.add]
        split
        · exact .inr ⟨b, o, rfl⟩
        · exact .inr ⟨b, _, rfl⟩
  by_cases he : lo = hi
  · left
    subst he
    exact ⟨List.eq_nil_of_length_eq_zero (by simp), hpl2⟩
  · rcases h3 with ⟨rfl, _⟩ | ⟨b, o, rfl, h4⟩
    · left; exact ⟨by simp, hpl2⟩
    · right
      refine ⟨b, o + lo * E.sz, ?_, fun i x hi' => ?_⟩
      · unfold slA
        by_cases hcl : c = lo
        · exact absurd hcl (by omega)
        · rw [if_neg hcl]
          simp only [Option.map_some, Addr.add]
          split
          · rename_i h9; rw [h9]; rfl
          · rfl
      · rw [List.getElem?_drop, List.getElem?_take] at hi'
        split at hi'
        · obtain ⟨cs, h5, h6⟩ := h4 (lo + i) x hi'
          exact ⟨cs, h5, by rw [show o + lo * E.sz + i * E.sz = o + (lo + i) * E.sz by rw [Nat.add_mul]; omega]; exact h6⟩
        · cases hi'

def EI : Elt Int where
  sz := 1
  rep := fun _ cs x => cs = [.int .i64 x]
  pos := by decide
  len := by rintro _ _ _ rfl; rfl
  one := by rintro _ _ _ rfl v hv; simp at hv; subst hv; rfl
  keep := fun _ h => h

def EB : Elt UInt8 where
  sz := 1
  rep := fun _ cs x => cs = [.int .u8 x.toNat]
  pos := by decide
  len := by rintro _ _ _ rfl; rfl
  one := by rintro _ _ _ rfl v hv; simp at hv; subst hv; rfl
  keep := fun _ h => h

def EL : Elt (List Int) where
  sz := 1
  rep := fun m cs l => ∃ a n c, cs = [.slice a n c] ∧ EI.fz m a n l
  pos := by decide
  len := by rintro _ _ _ ⟨a, n, c, rfl, _⟩; rfl
  one := by rintro _ _ _ ⟨a, n, c, rfl, _⟩ v hv; simp at hv; subst hv; rfl
  keep := by rintro S m m' cs x hk ⟨a, n, c, rfl, h⟩; exact ⟨a, n, c, rfl, h.keep hk⟩

def ER : Elt (Bool × List Int) where
  sz := 2
  rep := fun m cs r => ∃ a n c, cs = [.bool r.1, .slice a n c] ∧ EI.fz m a n r.2
  pos := by decide
  len := by rintro _ _ _ ⟨a, n, c, rfl, _⟩; rfl
  one := by
    rintro _ _ _ ⟨a, n, c, rfl, _⟩ v hv
    simp at hv
    rcases hv with rfl | rfl <;> rfl
  keep := by rintro S m m' cs x hk ⟨a, n, c, rfl, h⟩; exact ⟨a, n, c, rfl, h.keep hk⟩
abbrev SlI := @Elt.sl Int EI
abbrev FzI := @Elt.fz Int EI
abbrev OwnI := @Elt.own Int EI
abbrev SlII := @Elt.sl (List Int) EL
abbrev FzII := @Elt.fz (List Int) EL
abbrev OwnII := @Elt.own (List Int) EL
abbrev SlR := @Elt.sl (Bool × List Int) ER
abbrev FzR := @Elt.fz (Bool × List Int) ER
abbrev OwnR := @Elt.own (Bool × List Int) ER
end

theorem getD_some {α : Type} {l : List α} {i : Nat} (h : i < l.length) (d : α) : l[i]? = some (l.getD i d) := by simp [List.getD, h]
theorem drop_cons {α : Type} {l : List α} {k : Nat} (h : k < l.length) (d : α) : l.drop k = l.getD k d :: l.drop (k + 1) := by
  rw [List.drop_eq_getElem_cons h]; simp [List.getD, h]

theorem Elt.sl.get {m : Mem} {a : Option Addr} {n : Nat} {l : List Int} (h : SlI m a n l) {i : Int} (h0 : 0 ≤ i) (h1 : i < n) {K : Nat → Nat → Nat → Int → Prop} (hK : ∀ b o j, K b o j (l.getD i.toNat 0)) :
    ckP a fun b o => ckI i n fun j => ldInt .i64 m b (o + j) fun x => K b o j x := by
  obtain ⟨hn, h2⟩ := h
  have hlt : i.toNat < l.length := by omega
  rcases h2 with ⟨rfl, _⟩ | ⟨b, o, rfl, hr⟩
  · simp at hlt
  · obtain ⟨cs, rfl, h3⟩ := hr i.toNat _ (getD_some hlt 0)
    refine ⟨h0, h1, _, ?_, hK _ _ _⟩
    have := h3.1
    simpa [EI] using this
theorem Elt.sl.getL {m : Mem} {a : Option Addr} {n : Nat} {L : List (List Int)} (h : SlII m a n L) {i : Int} (h0 : 0 ≤ i) (h1 : i < n) {K : Nat → Nat → Nat → Option Addr → Nat → Nat → Prop}
    (hK : ∀ b o j ai ni ci, FzI m ai ni (L.getD i.toNat []) → K b o j ai ni ci) :
    ckP a fun b o => ckI i n fun j => ldSl m b (o + j) fun ai ni ci => K b o j ai ni ci := by
  obtain ⟨hn, h2⟩ := h
  have hlt : i.toNat < L.length := by omega
  rcases h2 with ⟨rfl, _⟩ | ⟨b, o, rfl, hr⟩
  · simp at hlt
  · obtain ⟨cs, ⟨ai, ni, ci, rfl, h4⟩, h3⟩ := hr i.toNat _ (getD_some hlt [])
    refine ⟨h0, h1, ai, ni, ci, ?_, hK _ _ _ _ _ _ h4⟩
    have := h3.1
    simpa [EL] using this
theorem Elt.sl.getD {m : Mem} {a : Option Addr} {n : Nat} {L : List (Bool × List Int)} (h : SlR m a n L) {i : Int} (h0 : 0 ≤ i) (h1 : i < n) {K : Nat → Nat → Nat → Bool → Prop}
    (hK : ∀ b o j, K b o j (L.getD i.toNat (false, [])).1) :
    ckP a fun b o => ckI i n fun j => ldBool m b (o + (j * 2)) fun x => K b o j x := by
  obtain ⟨hn, h2⟩ := h
  have hlt : i.toNat < L.length := by omega
  rcases h2 with ⟨rfl, _⟩ | ⟨b, o, rfl, hr⟩
  · simp at hlt
  · obtain ⟨cs, ⟨ai, ni, ci, rfl, h4⟩, h3⟩ := hr i.toNat _ (getD_some hlt (false, []))
    exact ⟨h0, h1, _, h3.1, hK _ _ _⟩
theorem Elt.sl.getR {m : Mem} {a : Option Addr} {n : Nat} {L : List (Bool × List Int)} (h : SlR m a n L) {i : Int} (h0 : 0 ≤ i) (h1 : i < n) {K : Nat → Nat → Nat → Option Addr → Nat → Nat → Prop}
    (hK : ∀ b o j ai ni ci, FzI m ai ni (L.getD i.toNat (false, [])).2 → K b o j ai ni ci) :
    ckP a fun b o => ckI i n fun j => ldSl m b ((o + (j * 2)) + 1) fun ai ni ci => K b o j ai ni ci := by
  obtain ⟨hn, h2⟩ := h
  have hlt : i.toNat < L.length := by omega
  rcases h2 with ⟨rfl, _⟩ | ⟨b, o, rfl, hr⟩
  · simp at hlt
  · obtain ⟨cs, ⟨ai, ni, ci, rfl, h4⟩, h3⟩ := hr i.toNat _ (getD_some hlt (false, []))
    exact ⟨h0, h1, ai, ni, ci, h3.2.1, hK _ _ _ _ _ _ h4⟩

def Mem.ice (m : Mem) (b : Nat) : Mem := { blk := fun i => if i = b then (m.blk b).map fun f => { wr := false, cell := f.cell } else m.blk i, top := m.top }
theorem Mem.ice_le {m : Mem} (ok : m.Ok) (b : Nat) : (m.ice b).Le m := by
  refine ⟨Nat.le_refl _, fun c f hc => ?_⟩
  simp only [Mem.ice] at hc ⊢
  split at hc
  · rename_i h0
    subst h0
    cases hm : m.blk c with
    | none => simp [hm] at hc
    | some g =>
      simp only [hm, Option.map_some, Option.some.injEq] at hc
      subst hc
      exact ⟨ok c g hm, g, rfl, by simp, fun _ _ h => h⟩
  · exact ⟨ok c f hc, f, hc, id, fun _ _ h => h⟩
theorem Mem.Ok.ice {m : Mem} (ok : m.Ok) (b : Nat) : (m.ice b).Ok := by
  intro c f hc
  exact ((Mem.ice_le ok b).blk c f hc).1
theorem Kp.ice {S : List Nat} {m0 m : Mem} (h : Kp S m0 m) (ok : m0.Ok) {b : Nat} (hb : b ∈ S ∨ m0.top ≤ b) : Kp S m0 (m.ice b) := by
  refine ⟨h.top, fun c f hc hm => ?_, fun c f hm hw => ?_⟩
  · have h1 := h.keep c f hc hm
    simp only [Mem.ice]
    rw [if_neg]
    · exact h1
    · intro h0
      subst h0
      rcases hb with hb | hb
      · exact hc hb
      · have := ok _ _ hm; omega
  · have h1 := h.fz c f hm hw
    simp only [Mem.ice]
    split
    · rename_i h0
      subst h0
      rw [h1]
      cases f
      simp only at hw
      subst hw
      rfl
    · exact h1
theorem Kp.ice1 {m : Mem} (b : Nat) : Kp [b] m (m.ice b) := by
  refine ⟨Nat.le_refl _, fun c f hc hm => ?_, fun c f hm hw => ?_⟩
  · simp only [Mem.ice]
    rw [if_neg (by simpa using hc)]
    exact hm
  · simp only [Mem.ice]
    split
    · rename_i h0
      subst h0
      rw [hm]
      cases f
      simp only at hw
      subst hw
      rfl
    · exact hm
theorem callOK_ice {P : Program} {w0 : World} {f : FuncId} {vs : List Value} {K : Value → Mem → Prop} {m : Mem}
    (h : m.Ok → callOK P w0 f vs (fun v m' => m'.Ok → ∃ m'', m''.Le m' ∧ m''.top = m'.top ∧ (m''.Ok → K v m'')) m) : callOK P w0 f vs K m :=
  fun w hw => ⟨(h hw.ok w hw).1, (h hw.ok w hw).2.mono fun _ _ ⟨v, m', h1, h2, h3⟩ => by
    obtain ⟨m'', h4, h5, h6⟩ := h3 h2.ok
    have h7 := h2.forget h4 (by rw [h5]; exact h2.size0)
    exact ⟨v, m'', h1, h7, h6 h7.ok⟩⟩

theorem Elt.own.ice {α : Type} {E : Elt α} {m : Mem} {a : Option Addr} {n c : Nat} {L : List α} (h : E.own m a n c L) :
    (∃ b, a = some ⟨b, 0, none⟩ ∧ E.fz (m.ice b) a n L) ∨ (a = none ∧ L = [] ∧ n = 0) := by
  have hs := h.sl
  obtain ⟨h0, css, h1, h2⟩ := h
  obtain ⟨h3, h4, h5⟩ := h1
  rcases h5 with ⟨rfl, rfl⟩ | ⟨b, f, rfl, h6, h7, h8, h9⟩
  · right
    have hn : n = 0 := by omega
    refine ⟨rfl, ?_, hn⟩
    exact List.eq_nil_of_length_eq_zero (by omega)
  · left
    refine ⟨b, rfl, h0, ?_⟩
    rcases hs.2 with h10 | ⟨b', o', h10, h11⟩
    · exact .inl h10
    · right
      simp only [Option.some.injEq, Addr.mk.injEq] at h10
      obtain ⟨rfl, rfl, _⟩ := h10
      refine ⟨b, 0, { wr := false, cell := f.cell }, rfl, by simp [Mem.ice, h6], rfl, fun i x hi => ?_⟩
      obtain ⟨cs, h12, h13⟩ := h11 i x hi
      refine ⟨cs, E.keep (Kp.ice1 b) h12, row_of fun j v hj => ?_⟩
      have := row_get h13 hj
      simp only [Mem.cell, h6] at this
      simp only [Mem.cell, Mem.ice, if_true, h6]
      exact this
end Go.Eng
