import Derived.Test.Qxb6500974aGreatR2
import Derived.Test.Qxb6500974aGreatBits
import Derived.Test.Qxb6500974aGreatM9
set_option linter.all false
set_option linter.unusedSimpArgs false
set_option linter.unusedVariables false
namespace Go.Proofs.Qxb6500974aGreat
open Go.Eng
variable {W0 : World}

def NF (l : List Int) : Prop := (∀ x ∈ l, goGoodLit x = true) ∧ l.Pairwise fun a b => a.natAbs < b.natAbs

def nfV (l : List Int) (v : Nat) : List Int := if (v : Int) ∈ l then [(v : Int)] else if -(v : Int) ∈ l then [-(v : Int)] else []
def nfA (l : List Int) : Nat → Nat → List Int
  | 0, _ => []
  | n + 1, v => nfV l v ++ nfA l n (v + 1)
def nf (l : List Int) : List Int := nfA l 12 1
theorem nfV_mem {l : List Int} {v : Nat} {x : Int} (h : x ∈ nfV l v) : x ∈ l ∧ x.natAbs = v := by
  unfold nfV at h
  split at h
  · simp at h; subst h; exact ⟨by assumption, by omega⟩
  · split at h
    · simp at h; subst h; exact ⟨by assumption, by omega⟩
    · simp at h
theorem nfA_mem {l : List Int} : ∀ {n v : Nat} {x : Int}, x ∈ nfA l n v → x ∈ l ∧ v ≤ x.natAbs ∧ x.natAbs < v + n
  | 0, v, x, h => by simp [nfA] at h
  | n + 1, v, x, h => by
    simp only [nfA, List.mem_append] at h
    rcases h with h | h
    · have := nfV_mem h; exact ⟨this.1, by omega, by omega⟩
    · have := nfA_mem h; exact ⟨this.1, by omega, by omega⟩
theorem nfA_sorted {l : List Int} : ∀ (n v : Nat), (nfA l n v).Pairwise fun a b => a.natAbs < b.natAbs
  | 0, v => by simp [nfA]
  | n + 1, v => by
    simp only [nfA]
    rw [List.pairwise_append]
    refine ⟨?_, nfA_sorted n (v + 1), ?_⟩
    · unfold nfV
      split
      · simp
      · split <;> simp
    · intro a ha b hb
      have h1 := nfV_mem ha
      have h2 := nfA_mem hb
      omega
theorem nfA_of {l : List Int} (hd : l.Pairwise fun a b => a.natAbs ≠ b.natAbs) : ∀ {n v : Nat} {x : Int}, x ∈ l → v ≤ x.natAbs → x.natAbs < v + n → x ∈ nfA l n v
  | 0, v, x, _, _, _ => by omega
  | n + 1, v, x, hx, h1, h2 => by
    simp only [nfA, List.mem_append]
    by_cases hv : x.natAbs = v
    · left
      unfold nfV
      by_cases hp : (v : Int) ∈ l
      · rw [if_pos hp]
        by_cases he : x = v
        · simp [he]
        · have hxn : x = -(v : Int) := by omega
          exfalso
          subst hxn
          have hne : (v : Int) ≠ -(v : Int) := fun h0 => he h0.symm
          have : ∀ a ∈ l, ∀ b ∈ l, a ≠ b → a.natAbs ≠ b.natAbs := by
            intro a ha b hb hab
            rw [List.pairwise_iff_getElem] at hd
            obtain ⟨i, hi, rfl⟩ := List.mem_iff_getElem.1 ha
            obtain ⟨j, hj, rfl⟩ := List.mem_iff_getElem.1 hb
            rcases Nat.lt_trichotomy i j with h | h | h
            · exact hd i j hi hj h
            · subst h; exact absurd rfl hab
            · exact fun h0 => hd j i hj hi h h0.symm
          exact this _ hp _ hx hne (by omega)
      · rw [if_neg hp]
        have hxn : x = -(v : Int) := by
          rcases Int.natAbs_eq x with h | h
          · exfalso; apply hp; rw [← hv, ← h]; exact hx
          · rw [h, hv]
        subst hxn
        rw [if_pos hx]; simp
    · right
      exact nfA_of hd hx (by omega) (by omega)
theorem vars_nodup {l : List Int} (hd : l.Pairwise fun a b => a.natAbs ≠ b.natAbs) : l.Nodup := hd.orMap fun h h0 => h (by rw [h0])
theorem sorted_vars {l : List Int} (hd : l.Pairwise fun a b => a.natAbs < b.natAbs) : l.Pairwise fun a b => a.natAbs ≠ b.natAbs := hd.orMap fun h h0 => by omega
theorem nf_perm {l : List Int} (hg : ∀ x ∈ l, goGoodLit x = true) (hd : l.Pairwise fun a b => a.natAbs ≠ b.natAbs) : (nf l).Perm l := by
  unfold nf
  rw [List.perm_ext_iff_of_nodup (vars_nodup (sorted_vars (nfA_sorted 12 1))) (vars_nodup hd)]
  intro x
  constructor
  · intro h; exact (nfA_mem h).1
  · intro h
    have := good_abs (hg x h)
    exact nfA_of hd h (by omega) (by omega)
theorem nf_NF {l : List Int} (hg : ∀ x ∈ l, goGoodLit x = true) : NF (nf l) := ⟨fun x hx => hg x (nfA_mem hx).1, nfA_sorted 12 1⟩
theorem NF.eq_of_perm {a b : List Int} (ha : NF a) (hb : NF b) (h : a.Perm b) : a = b :=
  h.eq_of_pairwise (le := fun a b => a.natAbs < b.natAbs) (fun a b _ _ h1 h2 => by omega) ha.2 hb.2
theorem nf_of_perm {a b : List Int} (hb : NF b) (h : a.Perm b) : nf a = b := by
  have hg : ∀ x ∈ a, goGoodLit x = true := fun x hx => hb.1 x (h.mem_iff.1 hx)
  have hd : a.Pairwise fun a b => a.natAbs ≠ b.natAbs := (h.pairwise_iff (fun h => h.symm)).2 (sorted_vars hb.2)
  exact (nf_NF hg).eq_of_perm hb ((nf_perm hg hd).trans h)
theorem vars_len {l : List Int} (hg : ∀ x ∈ l, goGoodLit x = true) (hd : l.Pairwise fun a b => a.natAbs ≠ b.natAbs) : l.length ≤ 12 := by
  have := nodup_le 12 (l.map Int.natAbs) (by rw [List.Nodup, List.pairwise_map]; exact hd) (by
    intro x hx
    obtain ⟨y, hy, rfl⟩ := List.mem_map.1 hx
    have := good_abs (hg y hy)
    omega)
  simpa using this

structure Cl where
  st : Nat
  lits : List Int
abbrev Wt := Nat → Cl
structure ClGood (c : Cl) : Prop where
  st : c.st ≤ 3
  dead : c.st = 0 → c.lits = []
  good : ∀ l ∈ c.lits, goGoodLit l = true
  vars : c.lits.Pairwise fun a b => a.natAbs ≠ b.natAbs
  two : c.st = 3 → 2 ≤ c.lits.length
structure WGood (w : Wt) : Prop where
  cl : ∀ id, ClGood (w id)
  out : ∀ id, 52 ≤ id → (w id).st = 0
theorem ClGood.len {c : Cl} (h : ClGood c) : c.lits.length ≤ 12 := vars_len h.good h.vars
def watches (c : Cl) (k : Nat) : Bool := decide (c.st = 3) && (decide (goCode (c.lits.getD 0 0) = k) || decide (goCode (c.lits.getD 1 0) = k))
structure WRep (c : WaC) (w : Wt) : Prop where
  used : U64 c.used ∧ ∀ i, i < 64 → tb c.used i = decide ((w i).st ≠ 0)
  fresh : U64 c.fresh ∧ ∀ i, i < 64 → tb c.fresh i = decide ((w i).st = 1)
  weak : U64 c.weak ∧ ∀ i, i < 64 → tb c.weak i = decide ((w i).st = 2)
  size : ∀ id, id < 52 → c.size id = (w id).lits.length
  lits : ∀ id, id < 52 → ∀ i x, (w id).lits[i]? = some x → c.lits (id * 12 + i) = x
  list : ∀ k, k < 26 → U64 (c.list k) ∧ ∀ i, i < 64 → tb (c.list k) i = watches (w i) k

structure WAt (m : Mem) (b t : Nat) (w : Wt) : Prop where
  good : WGood w
  rep : ∃ c, WaB m b c ∧ c.t = t ∧ WRep c w
theorem WAt.keep {S : List Nat} {m m' : Mem} {b t : Nat} {w : Wt} (h : WAt m b t w) (hk : Kp S m m') (hb : b ∉ S) : WAt m' b t w := by
  obtain ⟨g, c, h1, h2⟩ := h
  exact ⟨g, c, h1.keep hk hb, h2⟩
theorem WAt.lt {m : Mem} {b t : Nat} {w : Wt} (ok : m.Ok) (h : WAt m b t w) : b < m.top := by
  obtain ⟨g, c, h1, h2⟩ := h
  exact h1.lt ok
def liveB (w : Wt) (id : Int) : Bool := decide (0 ≤ id) && decide ((w id.toNat).st ≠ 0)
theorem live_spec {b t : Nat} {w : Wt} {id : Int} {K : Value → Mem → Prop} {m : Mem} (h : WAt m b t w) (hK : K (.bool (liveB w id)) m) : callOK Tryz.prog W0 90 [ptr b 0, .int .i64 id] K m := by
  refine call90 ?_
  obtain ⟨g, c, h1, h2, h3⟩ := h
  unfold s90
  unfold liveB at hK
  refine ifB_lt (fun hn => ?_) (fun hn => ?_)
  · have : decide (0 ≤ id) = false := by simp; omega
    rw [this] at hK; exact hK
  · have h0 : decide (0 ≤ id) = true := by simp; omega
    rw [h0, Bool.true_and] at hK
    refine ifB_ge (fun hge => ?_) (fun hge => ?_)
    · have := g.out id.toNat (by omega)
      rw [this] at hK
      exact hK
    · refine ⟨_, h1.used, ?_⟩
      obtain ⟨k, rfl⟩ : ∃ k : Nat, id = k := ⟨id.toNat, by omega⟩
      rw [goHas_eq h3.used.1 (by omega), h3.used.2 _ (by omega)]
      simpa using hK

def emptyW : Wt := fun _ => ⟨0, []⟩
theorem emptyW_good : WGood emptyW := ⟨fun id => ⟨by simp [emptyW], fun _ => rfl, by simp [emptyW], by simp [emptyW], by simp [emptyW]⟩, fun _ _ => rfl⟩
theorem wreset_spec {b t : Nat} {w : Wt} {K : Value → Mem → Prop} {m : Mem} (h : WAt m b t w) (hK : ∀ m', m'.Ok → Kp [b] m m' → WAt m' b t emptyW → K (.tuple #[]) m') : callOK Tryz.prog W0 54 [ptr b 0] K m := by
  refine callOK_ok fun ok => call54 ?_
  obtain ⟨g, c, h1, h2, h3⟩ := h
  unfold s54
  refine h1.st_used ok ?_
  intro m1 ok1 kp1 b1
  refine b1.st_fresh ok1 ?_
  intro m2 ok2 kp2 b2
  refine b2.st_weak ok2 ?_
  intro m3 ok3 kp3 b3
  refine b3.st_visits ok3 ?_
  intro m4 ok4 kp4 b4
  have k4 := ((kp1.trans kp2).trans kp3).trans kp4
  refine loop54_1 (γ := Nat × WaC) (fun g i m' => i = g.1 ∧ g.1 ≤ 26 ∧ m'.Ok ∧ Kp [b] m m' ∧ WaB m' b g.2 ∧ g.2.t = t ∧ g.2.used = 0 ∧ g.2.fresh = 0 ∧ g.2.weak = 0 ∧ ∀ k, k < g.1 → g.2.list k = 0) (fun g _ => 26 - g.1) (0, _)
    ⟨rfl, by dsimp only; omega, ok4, k4, b4, h2, rfl, rfl, rfl, by intro k hk; dsimp only at hk; omega⟩ ?_
  rintro ⟨k, c5⟩ i m5 ⟨rfl, hk, ok5, kp5, b5, e0, e1, e2, e3, e4⟩
  dsimp only at hk b5 e0 e1 e2 e3 e4 ⊢
  unfold s54_1
  refine ifB_lt (fun hlt => ?_) (fun hlt => ?_)
  · refine ⟨by omega, by omega, ?_⟩
    simp only [Int.toNat_natCast]
    refine b5.st_list ok5 (by omega) ?_
    intro m6 ok6 kp6 b6
    refine ⟨(k + 1, _), _, rfl, ⟨wrapS k (by omega), by dsimp only; omega, ok6, kp5.trans kp6, b6, e0, e1, e2, e3, ?_⟩, by dsimp only; omega⟩
    intro j hj
    dsimp only at hj ⊢
    by_cases he : j = k
    · subst he; exact fupd_at _ _ _
    · rw [fupd_ne _ _ he]; exact e4 j (by omega)
  · rw [e54_1x0]
    have : k = 26 := by omega
    subst this
    unfold s54_1x0
    refine loop54_2 (γ := Nat × WaC) (fun g i m' => i = g.1 ∧ g.1 ≤ 52 ∧ m'.Ok ∧ Kp [b] m m' ∧ WaB m' b g.2 ∧ g.2.t = t ∧ g.2.used = 0 ∧ g.2.fresh = 0 ∧ g.2.weak = 0 ∧ (∀ k, k < 26 → g.2.list k = 0) ∧ ∀ k, k < g.1 → g.2.size k = 0) (fun g _ => 52 - g.1) (0, c5)
      ⟨rfl, by dsimp only; omega, ok5, kp5, b5, e0, e1, e2, e3, e4, by intro k hk; dsimp only at hk; omega⟩ ?_
    rintro ⟨k, c6⟩ i m6 ⟨rfl, hk, ok6, kp6, b6, e0, e1, e2, e3, e4, e5⟩
    dsimp only at hk b6 e0 e1 e2 e3 e4 e5 ⊢
    unfold s54_2
    refine ifB_lt (fun hlt => ?_) (fun hlt => ?_)
    · refine ⟨by omega, by omega, ?_⟩
      simp only [Int.toNat_natCast]
      refine b6.st_size ok6 (by omega) ?_
      intro m7 ok7 kp7 b7
      refine ⟨(k + 1, _), _, rfl, ⟨wrapS k (by omega), by dsimp only; omega, ok7, kp6.trans kp7, b7, e0, e1, e2, e3, e4, ?_⟩, by dsimp only; omega⟩
      intro j hj
      dsimp only at hj ⊢
      by_cases he : j = k
      · subst he; exact fupd_at _ _ _
      · rw [fupd_ne _ _ he]; exact e5 j (by omega)
    · rw [e54_2x2]
      have : k = 52 := by omega
      subst this
      have hu : U64 0 := ⟨by omega, by omega⟩
      refine hK m6 ok6 kp6 ⟨emptyW_good, c6, b6, e0, ?_⟩
      refine ⟨?_, ?_, ?_, ?_, ?_, ?_⟩
      · rw [e1]; exact ⟨hu, fun i _ => by rw [tb_zero]; simp [emptyW]⟩
      · rw [e2]; exact ⟨hu, fun i _ => by rw [tb_zero]; simp [emptyW]⟩
      · rw [e3]; exact ⟨hu, fun i _ => by rw [tb_zero]; simp [emptyW]⟩
      · intro id hid; rw [e5 id hid]; simp [emptyW]
      · intro id hid i x hi; simp [emptyW] at hi
      · intro k hk; rw [e4 k hk]; exact ⟨hu, fun i _ => by rw [tb_zero]; simp [emptyW, watches]⟩
end Go.Proofs.Qxb6500974aGreat
