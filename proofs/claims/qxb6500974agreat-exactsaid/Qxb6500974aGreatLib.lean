import Derived.Test.Qxb6500974aGreatEngF
set_option linter.all false
set_option linter.unusedSimpArgs false
namespace Go.Eng

theorem ifB_of {b : Bool} {A B : Prop} (h1 : b = true → A) (h2 : b = false → B) : ifB b A B := by
  cases b
  · exact h2 rfl
  · exact h1 rfl
theorem ifB_dec {p : Prop} [Decidable p] {A B : Prop} (h1 : p → A) (h2 : ¬ p → B) : ifB (decide p) A B := by
  by_cases h : p
  · simp only [h, decide_true]; exact h1 h
  · simp only [h, decide_false]; exact h2 h
theorem ifB_lt {a b : Int} {A B : Prop} (h1 : a < b → A) (h2 : b ≤ a → B) : ifB (decide (a < b)) A B := ifB_dec h1 (fun h => h2 (by omega))
theorem ifB_le {a b : Int} {A B : Prop} (h1 : a ≤ b → A) (h2 : b < a → B) : ifB (decide (a ≤ b)) A B := ifB_dec h1 (fun h => h2 (by omega))
theorem ifB_gt {a b : Int} {A B : Prop} (h1 : b < a → A) (h2 : a ≤ b → B) : ifB (decide (a > b)) A B := ifB_dec (fun h => h1 (by omega)) (fun h => h2 (by omega))
theorem ifB_ge {a b : Int} {A B : Prop} (h1 : b ≤ a → A) (h2 : a < b → B) : ifB (decide (a ≥ b)) A B := ifB_dec (fun h => h1 (by omega)) (fun h => h2 (by omega))
theorem ifB_eq {a b : Int} {A B : Prop} (h1 : a = b → A) (h2 : a ≠ b → B) : ifB (a == b) A B := by
  by_cases h : a = b
  · have : (a == b) = true := by simpa using h
    rw [this]; exact h1 h
  · have : (a == b) = false := by simpa using h
    rw [this]; exact h2 h
theorem ifB_ne {a b : Int} {A B : Prop} (h1 : a ≠ b → A) (h2 : a = b → B) : ifB (a != b) A B := by
  by_cases h : a = b
  · have : (a != b) = false := by simpa using h
    rw [this]; exact h2 h
  · have : (a != b) = true := by simpa using h
    rw [this]; exact h1 h
theorem ifB_not {b : Bool} {A B : Prop} (h1 : b = false → A) (h2 : b = true → B) : ifB (!b) A B := by
  cases b
  · exact h1 rfl
  · exact h2 rfl
theorem ifB_true {A B : Prop} (h : A) : ifB true A B := h
theorem ifB_false {A B : Prop} (h : B) : ifB false A B := h

theorem wrap_i64 {n : Int} (h1 : -9223372036854775808 ≤ n) (h2 : n < 9223372036854775808) : IntKind.wrap .i64 n = n := by
  simp [IntKind.wrap, IntKind.bits, IntKind.signed]; omega
theorem wrap_u64 {n : Int} (h1 : 0 ≤ n) (h2 : n < 18446744073709551616) : IntKind.wrap .u64 n = n := by
  simp [IntKind.wrap, IntKind.bits, IntKind.signed]; omega
theorem wrap_u16 {n : Int} (h1 : 0 ≤ n) (h2 : n < 65536) : IntKind.wrap .u16 n = n := by
  simp [IntKind.wrap, IntKind.bits, IntKind.signed]; omega
theorem wrap_u8 {n : Int} (h1 : 0 ≤ n) (h2 : n < 256) : IntKind.wrap .u8 n = n := by
  simp [IntKind.wrap, IntKind.bits, IntKind.signed]; omega
theorem wrap_i8 {n : Int} (h1 : -128 ≤ n) (h2 : n < 128) : IntKind.wrap .i8 n = n := by
  simp [IntKind.wrap, IntKind.bits, IntKind.signed]; omega

theorem Mem.setB_blk (m : Mem) (b c : Nat) (f : Blk) : (m.setB b f).blk c = if c = b then some f else m.blk c := rfl
theorem Mem.setB_top (m : Mem) (b : Nat) (f : Blk) : (m.setB b f).top = m.top := rfl
theorem Mem.new_blk (m : Mem) (b c : Nat) (f : Blk) : (m.new b f).blk c = if c = b then some f else m.blk c := rfl
theorem Mem.new_top (m : Mem) (b : Nat) (f : Blk) : (m.new b f).top = b + 1 := rfl
theorem Mem.setB_at (m : Mem) (b : Nat) (f : Blk) : (m.setB b f).blk b = some f := by simp [Mem.setB]
theorem Mem.new_at (m : Mem) (b : Nat) (f : Blk) : (m.new b f).blk b = some f := by simp [Mem.new]
theorem Mem.cell_of {m : Mem} {b o : Nat} {f : Blk} {v : Value} (hb : m.blk b = some f) (h : f.cell o = some v) : m.cell b o = some v := by simp [Mem.cell, hb, h]

structure Kp (S : List Nat) (m m' : Mem) : Prop where
  top : m.top ≤ m'.top
  keep : ∀ b f, b ∉ S → m.blk b = some f → m'.blk b = some f
  fz : ∀ b f, m.blk b = some f → f.wr = false → m'.blk b = some f

def Mem.Ok (m : Mem) : Prop := ∀ b f, m.blk b = some f → b < m.top
theorem Kp.refl (S : List Nat) (m : Mem) : Kp S m m := ⟨Nat.le_refl _, fun _ _ _ h => h, fun _ _ h _ => h⟩
theorem Kp.trans {S : List Nat} {m m' m'' : Mem} (h : Kp S m m') (h' : Kp S m' m'') : Kp S m m'' :=
  ⟨Nat.le_trans h.top h'.top, fun b f hb hm => h'.keep b f hb (h.keep b f hb hm), fun b f hm hw => h'.fz b f (h.fz b f hm hw) hw⟩
theorem Kp.mono {S S' : List Nat} {m m' : Mem} (h : Kp S m m') (hs : ∀ b, b ∈ S → b ∈ S') : Kp S' m m' :=
  ⟨h.top, fun b f hb hm => h.keep b f (fun h0 => hb (hs b h0)) hm, h.fz⟩
theorem Kp.of_nil {S : List Nat} {m m' : Mem} (h : Kp [] m m') : Kp S m m' := h.mono (fun _ h => by cases h)
theorem Kp.setB {S : List Nat} {m : Mem} {b : Nat} {f0 : Blk} (h0 : m.blk b = some f0) (hw : f0.wr = true) (f : Blk) (hb : b ∈ S) : Kp S m (m.setB b f) :=
  ⟨Nat.le_refl _, fun c g hc hm => by rw [Mem.setB_blk, if_neg (by intro h0; subst h0; exact hc hb)]; exact hm,
   fun c g hm hg => by
    rw [Mem.setB_blk, if_neg]
    · exact hm
    · intro h1
      subst h1
      rw [h0] at hm
      cases hm
      rw [hw] at hg
      cases hg⟩
theorem Kp.new {S : List Nat} {m : Mem} (ok : m.Ok) {b : Nat} (hb : m.top ≤ b) (f : Blk) : Kp S m (m.new b f) :=
  ⟨by simp [Mem.new]; omega, fun c g _ hm => by rw [Mem.new_blk, if_neg (by have := ok c g hm; omega)]; exact hm,
   fun c g hm _ => by rw [Mem.new_blk, if_neg (by have := ok c g hm; omega)]; exact hm⟩
theorem Mem.Ok.setB {m : Mem} (ok : m.Ok) {b : Nat} {f g : Blk} (hb : m.blk b = some g) : (m.setB b f).Ok := by
  intro c h hc
  rw [Mem.setB_blk] at hc
  rw [Mem.setB_top]
  split at hc
  · rename_i h0; subst h0; exact ok _ g hb
  · exact ok _ _ hc
theorem Mem.Ok.new {m : Mem} (ok : m.Ok) {b : Nat} (hb : m.top ≤ b) (f : Blk) : (m.new b f).Ok := by
  intro c h hc
  rw [Mem.new_blk] at hc
  rw [Mem.new_top]
  split at hc
  · omega
  · have := ok _ _ hc; omega
theorem RepM.ok {w0 : World} {m : Mem} {w : World} (h : RepM w0 m w) : m.Ok := fun b f hb => (h.known b f hb).1

theorem callOK_ok {P : Program} {w0 : World} {f : FuncId} {vs : List Value} {K : Value → Mem → Prop} {m : Mem} (h : m.Ok → callOK P w0 f vs K m) : callOK P w0 f vs K m :=
  fun w hw => h hw.ok w hw

theorem Kp.cell {S : List Nat} {m m' : Mem} (h : Kp S m m') {b o : Nat} {v : Value} (hb : b ∉ S) (hc : m.cell b o = some v) : m'.cell b o = some v := by
  unfold Mem.cell at *
  cases hm : m.blk b with
  | none => simp [hm] at hc
  | some f => rw [h.keep b f hb hm]; rw [hm] at hc; exact hc
theorem Kp.row {S : List Nat} {m m' : Mem} (h : Kp S m m') {b : Nat} (hb : b ∉ S) : ∀ {vs : List Value} {o : Nat}, m.row b o vs → m'.row b o vs
  | [], _, _ => trivial
  | _ :: _, _, hr => ⟨h.cell hb hr.1, h.row hb hr.2⟩
theorem row_get {m : Mem} {b : Nat} : ∀ {vs : List Value} {o : Nat}, m.row b o vs → ∀ {i : Nat} {v : Value}, vs[i]? = some v → m.cell b (o + i) = some v
  | [], _, _, i, v, hi => by simp at hi
  | u :: vs, o, hr, i, v, hi => by
    cases i with
    | zero => simp at hi; subst hi; exact hr.1
    | succ i =>
      have := row_get hr.2 (i := i) (v := v) (by simpa using hi)
      rw [show o + (i + 1) = o + 1 + i by omega]; exact this
theorem row_of {m : Mem} {b : Nat} : ∀ {vs : List Value} {o : Nat}, (∀ i v, vs[i]? = some v → m.cell b (o + i) = some v) → m.row b o vs
  | [], _, _ => trivial
  | u :: vs, o, h => ⟨by simpa using h 0 u (by simp), row_of fun i v hi => by have := h (i + 1) v (by simpa using hi); rw [show o + 1 + i = o + (i + 1) by omega]; exact this⟩

theorem rdRow_of {m : Mem} {b o n : Nat} {vs : List Value} {K : List Value → Prop} (hr : m.row b o vs) (hn : vs.length = n) (hK : K vs) : rdRow m (some ⟨b, o, none⟩) n K := ⟨vs, hn, hr, hK⟩
theorem stL_of {b : Nat} : ∀ (vs : List Value) (o : Nat) (m : Mem) (f : Blk) (K : Mem → Prop), m.blk b = some f → f.wr = true → (∀ i, i < vs.length → (f.cell (o + i)).isSome = true) → (∀ v ∈ vs, oneC v = true) →
    K (m.setB b { wr := true, cell := fun j => if o ≤ j ∧ j < o + vs.length then vs[j - o]? else f.cell j }) → (vs = [] → K m) → stL m b o vs K
  | [], _, m, f, K, _, _, _, _, _, hK0 => hK0 rfl
  | v :: vs, o, m, f, K, hb, hw, hc, h1, hK, _ => by
    simp only [stL]
    rw [h1 v (by simp)]
    refine ⟨f, hb, hw, by simpa using hc 0 (by simp), ?_⟩
    have hup : ∀ (g : Blk), (m.setB b (f.upd o v)).setB b g = m.setB b g := by
      intro g
      simp only [Mem.setB, Mem.mk.injEq, and_true]
      funext i
      split <;> rfl
    refine stL_of vs (o + 1) _ (f.upd o v) K (by simp [Mem.setB]) hw ?_ (fun u hu => h1 u (by simp [hu])) ?_ ?_
    · intro i hi
      simp only [Blk.upd]
      split
      · rfl
      · have := hc (i + 1) (by simpa using hi)
        rw [show o + 1 + i = o + (i + 1) by omega]; exact this
    · rw [hup]
      refine Eq.mp (congrArg K ?_) hK
      congr 1
      simp only [Blk.mk.injEq, true_and]
      funext j
      simp only [Blk.upd, List.length_cons]
      by_cases hj : j = o
      · subst hj; rw [if_pos (by omega), if_neg (by omega), if_pos rfl]; simp
      · by_cases h2 : o ≤ j ∧ j < o + (vs.length + 1)
        · rw [if_pos h2, if_pos (by omega), show j - o = (j - (o + 1)) + 1 by omega]; simp
        · rw [if_neg h2, if_neg (by omega), if_neg hj]
    · intro hv
      subst hv
      refine Eq.mp (congrArg K ?_) hK
      congr 1
      simp only [Blk.upd, Blk.mk.injEq, hw, true_and]
      funext j
      by_cases hj : j = o
      · subst hj; simp
      · rw [if_neg (by simp; omega), if_neg hj]

theorem callOK_io {P : Program} {w0 : World} {f : FuncId} {vs : List Value} {K : Value → Mem → Prop} {m : Mem} (h : m.Ok → callOK P w0 f vs (fun v m' => m'.Ok → K v m') m) : callOK P w0 f vs K m :=
  fun w hw => ⟨(h hw.ok w hw).1, (h hw.ok w hw).2.mono fun _ _ ⟨v, m', h1, h2, h3⟩ => ⟨v, m', h1, h2, h3 h2.ok⟩⟩

def blkOf : Option Addr → List Nat
  | some x => [x.block]
  | none => []

def InS (S : List Nat) (m : Mem) (T : List Nat) : Prop := ∀ b ∈ T, b ∈ S ∨ m.top ≤ b
theorem InS.nil (S : List Nat) (m : Mem) : InS S m [] := fun _ h => by cases h
theorem InS.self (S : List Nat) (m : Mem) : InS S m S := fun _ h => .inl h
theorem InS.trans {S T U : List Nat} {m m' : Mem} (h : InS S m T) (h' : InS T m' U) (hk : m.top ≤ m'.top) : InS S m U := fun b hb => by
  rcases h' b hb with h1 | h1
  · exact h b h1
  · exact .inr (by omega)
theorem InS.append {S T U : List Nat} {m : Mem} (h : InS S m T) (h' : InS S m U) : InS S m (T ++ U) := fun b hb => by
  rcases List.mem_append.1 hb with h1 | h1
  · exact h b h1
  · exact h' b h1
theorem InS.mono {S S' T : List Nat} {m : Mem} (h : InS S m T) (hs : ∀ b ∈ S, b ∈ S') : InS S' m T := fun b hb => (h b hb).orMap (hs b) id

theorem Kp.step {S T : List Nat} {m0 m m' : Mem} (h : Kp S m0 m) (h' : Kp T m m') (ok : m0.Ok) (hs : InS S m0 T) : Kp S m0 m' :=
  ⟨Nat.le_trans h.top h'.top, fun b f hb hm => h'.keep b f (fun hT => by
      rcases hs b hT with h1 | h1
      · exact hb h1
      · have := ok b f hm; omega) (h.keep b f hb hm), fun b f hm hw => h'.fz b f (h.fz b f hm hw) hw⟩

def OwnV (m : Mem) (a : Option Addr) (n c : Nat) (sz : Nat) (l : List Value) : Prop :=
  l.length = n * sz ∧ n ≤ c ∧ ((a = none ∧ c = 0) ∨ ∃ b f, a = some ⟨b, 0, none⟩ ∧ m.blk b = some f ∧ f.wr = true ∧ (∀ i v, l[i]? = some v → f.cell i = some v) ∧ (∀ i, i < c * sz → (f.cell i).isSome = true))
theorem OwnV.nil (m : Mem) (sz : Nat) : OwnV m none 0 0 sz [] := ⟨by simp, Nat.le_refl _, .inl ⟨rfl, rfl⟩⟩
theorem OwnV.keep {S : List Nat} {m m' : Mem} {a : Option Addr} {n c sz : Nat} {l : List Value} (h : OwnV m a n c sz l) (hk : Kp S m m') (hs : ∀ b ∈ blkOf a, b ∉ S) : OwnV m' a n c sz l := by
  refine ⟨h.1, h.2.1, h.2.2.orMap id ?_⟩
  rintro ⟨b, f, h1, h2, h3⟩
  exact ⟨b, f, h1, hk.keep b f (hs _ (by simp [h1, blkOf])) h2, h3⟩
theorem OwnV.keep0 {m m' : Mem} {a : Option Addr} {n c sz : Nat} {l : List Value} (h : OwnV m a n c sz l) (hk : Kp [] m m') : OwnV m' a n c sz l := h.keep hk (fun _ _ => by simp)
theorem OwnV.lt {m : Mem} (ok : m.Ok) {a : Option Addr} {n c sz : Nat} {l : List Value} (h : OwnV m a n c sz l) : ∀ b ∈ blkOf a, b < m.top := by
  intro b hb
  rcases h.2.2 with ⟨rfl, _⟩ | ⟨b', f, rfl, h2, _⟩
  · cases hb
  · simp [blkOf] at hb; subst hb; exact ok _ _ h2
theorem OwnV.row {m : Mem} {a : Option Addr} {n c sz : Nat} {l : List Value} (h : OwnV m a n c sz l) : l = [] ∨ ∃ b, a = some ⟨b, 0, none⟩ ∧ m.row b 0 l := by
  obtain ⟨h1, h2, h3⟩ := h
  rcases h3 with ⟨_, rfl⟩ | ⟨b, f, h4, h5, h6, h7, h8⟩
  · refine .inl ?_
    have : n = 0 := by omega
    subst this
    simpa using h1
  · exact .inr ⟨b, h4, row_of fun i v hi => Mem.cell_of h5 (by simpa using h7 i v hi)⟩
theorem nextcap_le (need cap : Nat) (h : cap < need) : Builtin.nextslicecap need cap ≤ 4 * need + 1024 := by
  unfold Builtin.nextslicecap
  split
  · omega
  · split
    · omega
    · simp only [Builtin.growBy]
      repeat' split
      all_goals omega

theorem appendV {m : Mem} {a : Option Addr} {n c sz by_ k : Nat} {z l new : List Value} {K : Option Addr → Nat → Mem → Prop} (ok : m.Ok) (h : OwnV m a n c sz l)
    (hz : z.length = sz) (hsz : 0 < sz) (hnew : new.length = k * sz) (hone : ∀ v ∈ new, oneC v = true) (hby : 0 < by_) (hsmall : (4 * (n + k) + 1024) * by_ ≤ 2 ^ 48)
    (hK : ∀ a' c' m', m'.Ok → Kp (blkOf a) m m' → OwnV m' a' (n + k) c' sz (l ++ new) → InS (blkOf a) m (blkOf a') → K a' c' m') : appendC m sz by_ z a n c k new K := by
  obtain ⟨h1, h2, h3⟩ := h
  constructor
  · intro hle
    rcases h3 with ⟨rfl, rfl⟩ | ⟨b, f, rfl, h5, h6, h7, h8⟩
    · have hk : n = 0 ∧ k = 0 := by omega
      obtain ⟨rfl, rfl⟩ := hk
      have hl : l = [] := by simpa using h1
      have hn : new = [] := by simpa using hnew
      subst hl; subst hn
      exact hK none 0 m ok (Kp.refl _ _) (OwnV.nil m sz) (InS.nil _ _)
    · have hcell : ∀ i, i < new.length → (f.cell (0 + n * sz + i)).isSome = true := by
        intro i hi
        refine h8 _ ?_
        have : (n + k) * sz ≤ c * sz := Nat.mul_le_mul_right _ hle
        rw [Nat.add_mul] at this
        omega
      have key : ∀ m', m'.Ok → Kp [b] m m' → (∃ f', m'.blk b = some f' ∧ f'.wr = true ∧ (∀ i v, (l ++ new)[i]? = some v → f'.cell i = some v) ∧ (∀ i, i < c * sz → (f'.cell i).isSome = true)) → K (some ⟨b, 0, none⟩) c m' := by
        intro m' ok' kp' hf'
        obtain ⟨f', g1, g2, g3, g4⟩ := hf'
        exact hK _ _ m' ok' kp' ⟨by simp [h1, hnew, Nat.add_mul], hle, .inr ⟨b, f', rfl, g1, g2, g3, g4⟩⟩ (InS.self _ _)
      refine stL_of new (0 + n * sz) m f _ h5 h6 hcell hone ?_ ?_
      · refine key _ (ok.setB h5) (Kp.setB h5 h6 _ (by simp)) ⟨_, Mem.setB_at _ _ _, rfl, ?_, ?_⟩
        · intro i v hi
          simp only
          rw [List.getElem?_append] at hi
          split at hi
          · rename_i hlt
            rw [if_neg (by omega)]
            exact h7 i v hi
          · rename_i hlt
            have hi2 : i - l.length < new.length := by
              rcases Nat.lt_or_ge (i - l.length) new.length with h' | h'
              · exact h'
              · simp [List.getElem?_eq_none h'] at hi
            rw [if_pos (by omega), show i - (0 + n * sz) = i - l.length by omega]
            exact hi
        · intro i hi
          simp only
          split
          · rw [List.getElem?_eq_getElem (by omega)]; rfl
          · exact h8 i hi
      · intro hn
        subst hn
        refine key m ok (Kp.refl _ _) ⟨f, h5, h6, by simpa using h7, h8⟩
  · intro hlt
    have hcap : Builtin.nextslicecap (n + k) c * by_ ≤ 2 ^ 48 := Nat.le_trans (Nat.mul_le_mul_right _ (nextcap_le _ _ hlt)) hsmall
    refine ⟨hcap, hby, ?_⟩
    have hrest : ∀ newCap, n + k ≤ newCap → newCap < 2 ^ 63 → allocB m { wr := true, cell := fun i => if i < (l ++ new).length then (l ++ new)[i]? else if i < newCap * sz then z[(i - (l ++ new).length) % z.length]? else none }
        fun b m => K (some ⟨b, 0, none⟩) newCap m := by
      intro nc hnc _ b hb
      have hkm := Kp.new (S := blkOf a) ok hb { wr := true, cell := fun i => if i < (l ++ new).length then (l ++ new)[i]? else if i < nc * sz then z[(i - (l ++ new).length) % z.length]? else none }
      refine hK _ _ _ (ok.new hb _) hkm ⟨by simp [h1, hnew, Nat.add_mul], hnc, .inr ⟨b, _, rfl, Mem.new_at _ _ _, rfl, ?_, ?_⟩⟩ ?_
      · intro i v hi
        simp only
        have : i < (l ++ new).length := by
          rcases Nat.lt_or_ge i (l ++ new).length with h' | h'
          · exact h'
          · simp [List.getElem?_eq_none h'] at hi
        rw [if_pos this]; exact hi
      · intro i hi
        simp only
        split
        · rename_i h'; rw [List.getElem?_eq_getElem h']; rfl
        · rw [List.getElem?_eq_getElem (Nat.mod_lt _ (by omega))]; rfl
      · intro b' he
        simp [blkOf] at he
        subst he
        exact .inr hb
    rcases h3 with ⟨rfl, rfl⟩ | ⟨b, f, rfl, h5, h6, h7, h8⟩
    · have hn : n = 0 := by omega
      subst hn
      have hl : l = [] := by simpa using h1
      subst hl
      exact ⟨by simp, hrest⟩
    · exact ⟨l, h1, row_of fun i v hi => Mem.cell_of h5 (by simpa using h7 i v hi), hrest⟩

theorem append1 {m : Mem} {a : Option Addr} {n c sz by_ : Nat} {z l new : List Value} {K : Option Addr → Nat → Mem → Prop} (ok : m.Ok) (h : OwnV m a n c sz l)
    (hz : z.length = sz) (hsz : 0 < sz) (hnew : new.length = sz) (hone : ∀ v ∈ new, oneC v = true) (hby : 0 < by_) (hsmall : (4 * (n + 1) + 1024) * by_ ≤ 2 ^ 48)
    (hK : ∀ a' c' m', m'.Ok → Kp (blkOf a) m m' → OwnV m' a' (n + 1) c' sz (l ++ new) → InS (blkOf a) m (blkOf a') → K a' c' m') :
    allocB m (Blk.ofList new) fun b m5 => rdRow m5 (some ⟨b, 0, none⟩) (1 * sz) fun r => appendC m5 sz by_ z a n c 1 r fun a' c' m' => K a' c' m' := by
  intro b hb
  have hkm := Kp.new (S := []) ok hb (Blk.ofList new)
  refine rdRow_of (vs := new) (row_of fun i v hi => Mem.cell_of (f := Blk.ofList new) (Mem.new_at _ _ _) (by simpa [Blk.ofList] using hi)) (by simp [hnew]) ?_
  refine appendV (ok.new hb _) (h.keep hkm (fun _ _ => by simp)) hz hsz (by simp [hnew]) hone hby hsmall ?_
  intro a' c' m' ok' kp' own' in'
  refine hK a' c' m' ok' (hkm.of_nil.trans kp') own' ?_
  intro b' hb'
  exact (in' b' hb').orMap id (fun h => by have := hkm.top; omega)
end Go.Eng
