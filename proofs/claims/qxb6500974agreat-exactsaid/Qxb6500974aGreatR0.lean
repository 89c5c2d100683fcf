import Derived.Test.Qxb6500974aGreatLib2
set_option linter.all false
set_option linter.unusedVariables false
namespace Go.Proofs.Qxb6500974aGreat
open Go.Eng
def fupd {α : Type} (f : Nat → α) (j : Nat) (x : α) : Nat → α := fun i => if i = j then x else f i
theorem fupd_at {α : Type} (f : Nat → α) (j : Nat) (x : α) : fupd f j x j = x := by simp [fupd]
theorem fupd_ne {α : Type} (f : Nat → α) {i j : Nat} (x : α) (h : i ≠ j) : fupd f j x i = f i := by simp [fupd, h]
theorem upd_at (f : Blk) (o : Nat) (v : Value) : (f.upd o v).cell o = some v := by simp [Blk.upd]
theorem upd_ne (f : Blk) {o i : Nat} (v : Value) (h : i ≠ o) : (f.upd o v).cell i = f.cell i := by simp [Blk.upd, h]
theorem upd_arr {f : Blk} {off j i : Nat} {g : Nat → Int} {k : IntKind} {x : Int} (h : f.cell (off + i) = some (.int k (g i))) : (f.upd (off + j) (.int k x)).cell (off + i) = some (.int k (fupd g j x i)) := by
  by_cases e : i = j
  · subst e; rw [upd_at]; simp [fupd]
  · rw [upd_ne _ _ (by omega)]; simp only [fupd, if_neg e]; exact h

structure TrC where
  stack : Nat → Int
  top : Int
  cursor : Int
  depth : Int
  val : Nat → Int
  level : Nat → Int
  reason : Nat → Int
  place : Nat → Int
  lim : Nat → Int
  pops : Int
structure TrF (f : Blk) (c : TrC) : Prop where
  stack : ∀ i, i < 12 → f.cell (0 + i) = some (.int .i64 (c.stack i))
  top : f.cell 12 = some (.int .i64 (c.top))
  cursor : f.cell 13 = some (.int .i64 (c.cursor))
  depth : f.cell 14 = some (.int .i64 (c.depth))
  val : ∀ i, i < 13 → f.cell (15 + i) = some (.int .i8 (c.val i))
  level : ∀ i, i < 13 → f.cell (28 + i) = some (.int .i64 (c.level i))
  reason : ∀ i, i < 13 → f.cell (41 + i) = some (.int .i64 (c.reason i))
  place : ∀ i, i < 13 → f.cell (54 + i) = some (.int .i64 (c.place i))
  lim : ∀ i, i < 13 → f.cell (67 + i) = some (.int .i64 (c.lim i))
  pops : f.cell 80 = some (.int .i64 (c.pops))
def TrB (m : Mem) (b : Nat) (c : TrC) : Prop := ∃ f, m.blk b = some f ∧ f.wr = true ∧ TrF f c
theorem TrB.keep {S : List Nat} {m m' : Mem} {b : Nat} {c : TrC} (h : TrB m b c) (hk : Kp S m m') (hb : b ∉ S) : TrB m' b c := by
  obtain ⟨f, h1, h2⟩ := h
  exact ⟨f, hk.keep b f hb h1, h2⟩
theorem TrB.lt {m : Mem} {b : Nat} {c : TrC} (ok : m.Ok) (h : TrB m b c) : b < m.top := by
  obtain ⟨f, h1, h2⟩ := h
  exact ok b f h1
theorem TrB.stack {m : Mem} {b : Nat} {c : TrC} (h : TrB m b c) {j : Nat} (hj : j < 12) : m.cell b (0 + j) = some (.int .i64 (c.stack j)) := by
  obtain ⟨f, h1, h2, h3⟩ := h
  exact Mem.cell_of h1 (h3.stack j hj)
theorem TrB.top {m : Mem} {b : Nat} {c : TrC} (h : TrB m b c) : m.cell b 12 = some (.int .i64 (c.top)) := by
  obtain ⟨f, h1, h2, h3⟩ := h
  exact Mem.cell_of h1 h3.top
theorem TrB.cursor {m : Mem} {b : Nat} {c : TrC} (h : TrB m b c) : m.cell b 13 = some (.int .i64 (c.cursor)) := by
  obtain ⟨f, h1, h2, h3⟩ := h
  exact Mem.cell_of h1 h3.cursor
theorem TrB.depth {m : Mem} {b : Nat} {c : TrC} (h : TrB m b c) : m.cell b 14 = some (.int .i64 (c.depth)) := by
  obtain ⟨f, h1, h2, h3⟩ := h
  exact Mem.cell_of h1 h3.depth
theorem TrB.val {m : Mem} {b : Nat} {c : TrC} (h : TrB m b c) {j : Nat} (hj : j < 13) : m.cell b (15 + j) = some (.int .i8 (c.val j)) := by
  obtain ⟨f, h1, h2, h3⟩ := h
  exact Mem.cell_of h1 (h3.val j hj)
theorem TrB.level {m : Mem} {b : Nat} {c : TrC} (h : TrB m b c) {j : Nat} (hj : j < 13) : m.cell b (28 + j) = some (.int .i64 (c.level j)) := by
  obtain ⟨f, h1, h2, h3⟩ := h
  exact Mem.cell_of h1 (h3.level j hj)
theorem TrB.reason {m : Mem} {b : Nat} {c : TrC} (h : TrB m b c) {j : Nat} (hj : j < 13) : m.cell b (41 + j) = some (.int .i64 (c.reason j)) := by
  obtain ⟨f, h1, h2, h3⟩ := h
  exact Mem.cell_of h1 (h3.reason j hj)
theorem TrB.place {m : Mem} {b : Nat} {c : TrC} (h : TrB m b c) {j : Nat} (hj : j < 13) : m.cell b (54 + j) = some (.int .i64 (c.place j)) := by
  obtain ⟨f, h1, h2, h3⟩ := h
  exact Mem.cell_of h1 (h3.place j hj)
theorem TrB.lim {m : Mem} {b : Nat} {c : TrC} (h : TrB m b c) {j : Nat} (hj : j < 13) : m.cell b (67 + j) = some (.int .i64 (c.lim j)) := by
  obtain ⟨f, h1, h2, h3⟩ := h
  exact Mem.cell_of h1 (h3.lim j hj)
theorem TrB.pops {m : Mem} {b : Nat} {c : TrC} (h : TrB m b c) : m.cell b 80 = some (.int .i64 (c.pops)) := by
  obtain ⟨f, h1, h2, h3⟩ := h
  exact Mem.cell_of h1 h3.pops
theorem TrB.st_stack {m : Mem} {b : Nat} {c : TrC} {j : Nat} {x : Int} {K : Mem → Prop} (ok : m.Ok) (h : TrB m b c) (hj : j < 12) (hK : ∀ m', m'.Ok → Kp [b] m m' → TrB m' b { c with stack := fupd c.stack j x } → K m') : st m b (0 + j) (.int .i64 (x)) K := by
  obtain ⟨f, h1, h2, h3⟩ := h
  refine ⟨f, h1, h2, by rw [h3.stack j hj]; rfl, hK _ (ok.setB h1) (Kp.setB h1 h2 _ (by simp)) ⟨_, Mem.setB_at _ _ _, h2, ?_⟩⟩
  exact ⟨(fun i hi => upd_arr (h3.stack i hi)), (by rw [upd_ne _ _ (by omega)]; exact h3.top), (by rw [upd_ne _ _ (by omega)]; exact h3.cursor), (by rw [upd_ne _ _ (by omega)]; exact h3.depth), (fun i hi => by rw [upd_ne _ _ (by omega)]; exact h3.val i hi), (fun i hi => by rw [upd_ne _ _ (by omega)]; exact h3.level i hi), (fun i hi => by rw [upd_ne _ _ (by omega)]; exact h3.reason i hi), (fun i hi => by rw [upd_ne _ _ (by omega)]; exact h3.place i hi), (fun i hi => by rw [upd_ne _ _ (by omega)]; exact h3.lim i hi), (by rw [upd_ne _ _ (by omega)]; exact h3.pops)⟩
theorem TrB.st_top {m : Mem} {b : Nat} {c : TrC} {x : Int} {K : Mem → Prop} (ok : m.Ok) (h : TrB m b c) (hK : ∀ m', m'.Ok → Kp [b] m m' → TrB m' b { c with top := x } → K m') : st m b 12 (.int .i64 (x)) K := by
  obtain ⟨f, h1, h2, h3⟩ := h
  refine ⟨f, h1, h2, by rw [h3.top]; rfl, hK _ (ok.setB h1) (Kp.setB h1 h2 _ (by simp)) ⟨_, Mem.setB_at _ _ _, h2, ?_⟩⟩
  exact ⟨(fun i hi => by rw [upd_ne _ _ (by omega)]; exact h3.stack i hi), (upd_at _ _ _), (by rw [upd_ne _ _ (by omega)]; exact h3.cursor), (by rw [upd_ne _ _ (by omega)]; exact h3.depth), (fun i hi => by rw [upd_ne _ _ (by omega)]; exact h3.val i hi), (fun i hi => by rw [upd_ne _ _ (by omega)]; exact h3.level i hi), (fun i hi => by rw [upd_ne _ _ (by omega)]; exact h3.reason i hi), (fun i hi => by rw [upd_ne _ _ (by omega)]; exact h3.place i hi), (fun i hi => by rw [upd_ne _ _ (by omega)]; exact h3.lim i hi), (by rw [upd_ne _ _ (by omega)]; exact h3.pops)⟩
theorem TrB.st_cursor {m : Mem} {b : Nat} {c : TrC} {x : Int} {K : Mem → Prop} (ok : m.Ok) (h : TrB m b c) (hK : ∀ m', m'.Ok → Kp [b] m m' → TrB m' b { c with cursor := x } → K m') : st m b 13 (.int .i64 (x)) K := by
  obtain ⟨f, h1, h2, h3⟩ := h
  refine ⟨f, h1, h2, by rw [h3.cursor]; rfl, hK _ (ok.setB h1) (Kp.setB h1 h2 _ (by simp)) ⟨_, Mem.setB_at _ _ _, h2, ?_⟩⟩
  exact ⟨(fun i hi => by rw [upd_ne _ _ (by omega)]; exact h3.stack i hi), (by rw [upd_ne _ _ (by omega)]; exact h3.top), (upd_at _ _ _), (by rw [upd_ne _ _ (by omega)]; exact h3.depth), (fun i hi => by rw [upd_ne _ _ (by omega)]; exact h3.val i hi), (fun i hi => by rw [upd_ne _ _ (by omega)]; exact h3.level i hi), (fun i hi => by rw [upd_ne _ _ (by omega)]; exact h3.reason i hi), (fun i hi => by rw [upd_ne _ _ (by omega)]; exact h3.place i hi), (fun i hi => by rw [upd_ne _ _ (by omega)]; exact h3.lim i hi), (by rw [upd_ne _ _ (by omega)]; exact h3.pops)⟩
theorem TrB.st_depth {m : Mem} {b : Nat} {c : TrC} {x : Int} {K : Mem → Prop} (ok : m.Ok) (h : TrB m b c) (hK : ∀ m', m'.Ok → Kp [b] m m' → TrB m' b { c with depth := x } → K m') : st m b 14 (.int .i64 (x)) K := by
  obtain ⟨f, h1, h2, h3⟩ := h
  refine ⟨f, h1, h2, by rw [h3.depth]; rfl, hK _ (ok.setB h1) (Kp.setB h1 h2 _ (by simp)) ⟨_, Mem.setB_at _ _ _, h2, ?_⟩⟩
  exact ⟨(fun i hi => by rw [upd_ne _ _ (by omega)]; exact h3.stack i hi), (by rw [upd_ne _ _ (by omega)]; exact h3.top), (by rw [upd_ne _ _ (by omega)]; exact h3.cursor), (upd_at _ _ _), (fun i hi => by rw [upd_ne _ _ (by omega)]; exact h3.val i hi), (fun i hi => by rw [upd_ne _ _ (by omega)]; exact h3.level i hi), (fun i hi => by rw [upd_ne _ _ (by omega)]; exact h3.reason i hi), (fun i hi => by rw [upd_ne _ _ (by omega)]; exact h3.place i hi), (fun i hi => by rw [upd_ne _ _ (by omega)]; exact h3.lim i hi), (by rw [upd_ne _ _ (by omega)]; exact h3.pops)⟩
theorem TrB.st_val {m : Mem} {b : Nat} {c : TrC} {j : Nat} {x : Int} {K : Mem → Prop} (ok : m.Ok) (h : TrB m b c) (hj : j < 13) (hK : ∀ m', m'.Ok → Kp [b] m m' → TrB m' b { c with val := fupd c.val j x } → K m') : st m b (15 + j) (.int .i8 (x)) K := by
  obtain ⟨f, h1, h2, h3⟩ := h
  refine ⟨f, h1, h2, by rw [h3.val j hj]; rfl, hK _ (ok.setB h1) (Kp.setB h1 h2 _ (by simp)) ⟨_, Mem.setB_at _ _ _, h2, ?_⟩⟩
  exact ⟨(fun i hi => by rw [upd_ne _ _ (by omega)]; exact h3.stack i hi), (by rw [upd_ne _ _ (by omega)]; exact h3.top), (by rw [upd_ne _ _ (by omega)]; exact h3.cursor), (by rw [upd_ne _ _ (by omega)]; exact h3.depth), (fun i hi => upd_arr (h3.val i hi)), (fun i hi => by rw [upd_ne _ _ (by omega)]; exact h3.level i hi), (fun i hi => by rw [upd_ne _ _ (by omega)]; exact h3.reason i hi), (fun i hi => by rw [upd_ne _ _ (by omega)]; exact h3.place i hi), (fun i hi => by rw [upd_ne _ _ (by omega)]; exact h3.lim i hi), (by rw [upd_ne _ _ (by omega)]; exact h3.pops)⟩
theorem TrB.st_level {m : Mem} {b : Nat} {c : TrC} {j : Nat} {x : Int} {K : Mem → Prop} (ok : m.Ok) (h : TrB m b c) (hj : j < 13) (hK : ∀ m', m'.Ok → Kp [b] m m' → TrB m' b { c with level := fupd c.level j x } → K m') : st m b (28 + j) (.int .i64 (x)) K := by
  obtain ⟨f, h1, h2, h3⟩ := h
  refine ⟨f, h1, h2, by rw [h3.level j hj]; rfl, hK _ (ok.setB h1) (Kp.setB h1 h2 _ (by simp)) ⟨_, Mem.setB_at _ _ _, h2, ?_⟩⟩
  exact ⟨(fun i hi => by rw [upd_ne _ _ (by omega)]; exact h3.stack i hi), (by rw [upd_ne _ _ (by omega)]; exact h3.top), (by rw [upd_ne _ _ (by omega)]; exact h3.cursor), (by rw [upd_ne _ _ (by omega)]; exact h3.depth), (fun i hi => by rw [upd_ne _ _ (by omega)]; exact h3.val i hi), (fun i hi => upd_arr (h3.level i hi)), (fun i hi => by rw [upd_ne _ _ (by omega)]; exact h3.reason i hi), (fun i hi => by rw [upd_ne _ _ (by omega)]; exact h3.place i hi), (fun i hi => by rw [upd_ne _ _ (by omega)]; exact h3.lim i hi), (by rw [upd_ne _ _ (by omega)]; exact h3.pops)⟩
theorem TrB.st_reason {m : Mem} {b : Nat} {c : TrC} {j : Nat} {x : Int} {K : Mem → Prop} (ok : m.Ok) (h : TrB m b c) (hj : j < 13) (hK : ∀ m', m'.Ok → Kp [b] m m' → TrB m' b { c with reason := fupd c.reason j x } → K m') : st m b (41 + j) (.int .i64 (x)) K := by
  obtain ⟨f, h1, h2, h3⟩ := h
  refine ⟨f, h1, h2, by rw [h3.reason j hj]; rfl, hK _ (ok.setB h1) (Kp.setB h1 h2 _ (by simp)) ⟨_, Mem.setB_at _ _ _, h2, ?_⟩⟩
  exact ⟨(fun i hi => by rw [upd_ne _ _ (by omega)]; exact h3.stack i hi), (by rw [upd_ne _ _ (by omega)]; exact h3.top), (by rw [upd_ne _ _ (by omega)]; exact h3.cursor), (by rw [upd_ne _ _ (by omega)]; exact h3.depth), (fun i hi => by rw [upd_ne _ _ (by omega)]; exact h3.val i hi), (fun i hi => by rw [upd_ne _ _ (by omega)]; exact h3.level i hi), (fun i hi => upd_arr (h3.reason i hi)), (fun i hi => by rw [upd_ne _ _ (by omega)]; exact h3.place i hi), (fun i hi => by rw [upd_ne _ _ (by omega)]; exact h3.lim i hi), (by rw [upd_ne _ _ (by omega)]; exact h3.pops)⟩
theorem TrB.st_place {m : Mem} {b : Nat} {c : TrC} {j : Nat} {x : Int} {K : Mem → Prop} (ok : m.Ok) (h : TrB m b c) (hj : j < 13) (hK : ∀ m', m'.Ok → Kp [b] m m' → TrB m' b { c with place := fupd c.place j x } → K m') : st m b (54 + j) (.int .i64 (x)) K := by
  obtain ⟨f, h1, h2, h3⟩ := h
  refine ⟨f, h1, h2, by rw [h3.place j hj]; rfl, hK _ (ok.setB h1) (Kp.setB h1 h2 _ (by simp)) ⟨_, Mem.setB_at _ _ _, h2, ?_⟩⟩
  exact ⟨(fun i hi => by rw [upd_ne _ _ (by omega)]; exact h3.stack i hi), (by rw [upd_ne _ _ (by omega)]; exact h3.top), (by rw [upd_ne _ _ (by omega)]; exact h3.cursor), (by rw [upd_ne _ _ (by omega)]; exact h3.depth), (fun i hi => by rw [upd_ne _ _ (by omega)]; exact h3.val i hi), (fun i hi => by rw [upd_ne _ _ (by omega)]; exact h3.level i hi), (fun i hi => by rw [upd_ne _ _ (by omega)]; exact h3.reason i hi), (fun i hi => upd_arr (h3.place i hi)), (fun i hi => by rw [upd_ne _ _ (by omega)]; exact h3.lim i hi), (by rw [upd_ne _ _ (by omega)]; exact h3.pops)⟩
theorem TrB.st_lim {m : Mem} {b : Nat} {c : TrC} {j : Nat} {x : Int} {K : Mem → Prop} (ok : m.Ok) (h : TrB m b c) (hj : j < 13) (hK : ∀ m', m'.Ok → Kp [b] m m' → TrB m' b { c with lim := fupd c.lim j x } → K m') : st m b (67 + j) (.int .i64 (x)) K := by
  obtain ⟨f, h1, h2, h3⟩ := h
  refine ⟨f, h1, h2, by rw [h3.lim j hj]; rfl, hK _ (ok.setB h1) (Kp.setB h1 h2 _ (by simp)) ⟨_, Mem.setB_at _ _ _, h2, ?_⟩⟩
  exact ⟨(fun i hi => by rw [upd_ne _ _ (by omega)]; exact h3.stack i hi), (by rw [upd_ne _ _ (by omega)]; exact h3.top), (by rw [upd_ne _ _ (by omega)]; exact h3.cursor), (by rw [upd_ne _ _ (by omega)]; exact h3.depth), (fun i hi => by rw [upd_ne _ _ (by omega)]; exact h3.val i hi), (fun i hi => by rw [upd_ne _ _ (by omega)]; exact h3.level i hi), (fun i hi => by rw [upd_ne _ _ (by omega)]; exact h3.reason i hi), (fun i hi => by rw [upd_ne _ _ (by omega)]; exact h3.place i hi), (fun i hi => upd_arr (h3.lim i hi)), (by rw [upd_ne _ _ (by omega)]; exact h3.pops)⟩
theorem TrB.st_pops {m : Mem} {b : Nat} {c : TrC} {x : Int} {K : Mem → Prop} (ok : m.Ok) (h : TrB m b c) (hK : ∀ m', m'.Ok → Kp [b] m m' → TrB m' b { c with pops := x } → K m') : st m b 80 (.int .i64 (x)) K := by
  obtain ⟨f, h1, h2, h3⟩ := h
  refine ⟨f, h1, h2, by rw [h3.pops]; rfl, hK _ (ok.setB h1) (Kp.setB h1 h2 _ (by simp)) ⟨_, Mem.setB_at _ _ _, h2, ?_⟩⟩
  exact ⟨(fun i hi => by rw [upd_ne _ _ (by omega)]; exact h3.stack i hi), (by rw [upd_ne _ _ (by omega)]; exact h3.top), (by rw [upd_ne _ _ (by omega)]; exact h3.cursor), (by rw [upd_ne _ _ (by omega)]; exact h3.depth), (fun i hi => by rw [upd_ne _ _ (by omega)]; exact h3.val i hi), (fun i hi => by rw [upd_ne _ _ (by omega)]; exact h3.level i hi), (fun i hi => by rw [upd_ne _ _ (by omega)]; exact h3.reason i hi), (fun i hi => by rw [upd_ne _ _ (by omega)]; exact h3.place i hi), (fun i hi => by rw [upd_ne _ _ (by omega)]; exact h3.lim i hi), (upd_at _ _ _)⟩
structure WaC where
  t : Nat
  lits : Nat → Int
  size : Nat → Int
  used : Int
  fresh : Int
  weak : Int
  list : Nat → Int
  visits : Int
structure WaF (f : Blk) (c : WaC) : Prop where
  t : f.cell 0 = some (ptr (c.t) 0)
  lits : ∀ i, i < 624 → f.cell (1 + i) = some (.int .i64 (c.lits i))
  size : ∀ i, i < 52 → f.cell (625 + i) = some (.int .i64 (c.size i))
  used : f.cell 677 = some (.int .u64 (c.used))
  fresh : f.cell 678 = some (.int .u64 (c.fresh))
  weak : f.cell 679 = some (.int .u64 (c.weak))
  list : ∀ i, i < 26 → f.cell (680 + i) = some (.int .u64 (c.list i))
  visits : f.cell 706 = some (.int .i64 (c.visits))
def WaB (m : Mem) (b : Nat) (c : WaC) : Prop := ∃ f, m.blk b = some f ∧ f.wr = true ∧ WaF f c
theorem WaB.keep {S : List Nat} {m m' : Mem} {b : Nat} {c : WaC} (h : WaB m b c) (hk : Kp S m m') (hb : b ∉ S) : WaB m' b c := by
  obtain ⟨f, h1, h2⟩ := h
  exact ⟨f, hk.keep b f hb h1, h2⟩
theorem WaB.lt {m : Mem} {b : Nat} {c : WaC} (ok : m.Ok) (h : WaB m b c) : b < m.top := by
  obtain ⟨f, h1, h2⟩ := h
  exact ok b f h1
theorem WaB.t {m : Mem} {b : Nat} {c : WaC} (h : WaB m b c) : m.cell b 0 = some (ptr (c.t) 0) := by
  obtain ⟨f, h1, h2, h3⟩ := h
  exact Mem.cell_of h1 h3.t
theorem WaB.lits {m : Mem} {b : Nat} {c : WaC} (h : WaB m b c) {j : Nat} (hj : j < 624) : m.cell b (1 + j) = some (.int .i64 (c.lits j)) := by
  obtain ⟨f, h1, h2, h3⟩ := h
  exact Mem.cell_of h1 (h3.lits j hj)
theorem WaB.size {m : Mem} {b : Nat} {c : WaC} (h : WaB m b c) {j : Nat} (hj : j < 52) : m.cell b (625 + j) = some (.int .i64 (c.size j)) := by
  obtain ⟨f, h1, h2, h3⟩ := h
  exact Mem.cell_of h1 (h3.size j hj)
theorem WaB.used {m : Mem} {b : Nat} {c : WaC} (h : WaB m b c) : m.cell b 677 = some (.int .u64 (c.used)) := by
  obtain ⟨f, h1, h2, h3⟩ := h
  exact Mem.cell_of h1 h3.used
theorem WaB.fresh {m : Mem} {b : Nat} {c : WaC} (h : WaB m b c) : m.cell b 678 = some (.int .u64 (c.fresh)) := by
  obtain ⟨f, h1, h2, h3⟩ := h
  exact Mem.cell_of h1 h3.fresh
theorem WaB.weak {m : Mem} {b : Nat} {c : WaC} (h : WaB m b c) : m.cell b 679 = some (.int .u64 (c.weak)) := by
  obtain ⟨f, h1, h2, h3⟩ := h
  exact Mem.cell_of h1 h3.weak
theorem WaB.list {m : Mem} {b : Nat} {c : WaC} (h : WaB m b c) {j : Nat} (hj : j < 26) : m.cell b (680 + j) = some (.int .u64 (c.list j)) := by
  obtain ⟨f, h1, h2, h3⟩ := h
  exact Mem.cell_of h1 (h3.list j hj)
theorem WaB.visits {m : Mem} {b : Nat} {c : WaC} (h : WaB m b c) : m.cell b 706 = some (.int .i64 (c.visits)) := by
  obtain ⟨f, h1, h2, h3⟩ := h
  exact Mem.cell_of h1 h3.visits
theorem WaB.st_lits {m : Mem} {b : Nat} {c : WaC} {j : Nat} {x : Int} {K : Mem → Prop} (ok : m.Ok) (h : WaB m b c) (hj : j < 624) (hK : ∀ m', m'.Ok → Kp [b] m m' → WaB m' b { c with lits := fupd c.lits j x } → K m') : st m b (1 + j) (.int .i64 (x)) K := by
  obtain ⟨f, h1, h2, h3⟩ := h
  refine ⟨f, h1, h2, by rw [h3.lits j hj]; rfl, hK _ (ok.setB h1) (Kp.setB h1 h2 _ (by simp)) ⟨_, Mem.setB_at _ _ _, h2, ?_⟩⟩
  exact ⟨(by rw [upd_ne _ _ (by omega)]; exact h3.t), (fun i hi => upd_arr (h3.lits i hi)), (fun i hi => by rw [upd_ne _ _ (by omega)]; exact h3.size i hi), (by rw [upd_ne _ _ (by omega)]; exact h3.used), (by rw [upd_ne _ _ (by omega)]; exact h3.fresh), (by rw [upd_ne _ _ (by omega)]; exact h3.weak), (fun i hi => by rw [upd_ne _ _ (by omega)]; exact h3.list i hi), (by rw [upd_ne _ _ (by omega)]; exact h3.visits)⟩
theorem WaB.st_size {m : Mem} {b : Nat} {c : WaC} {j : Nat} {x : Int} {K : Mem → Prop} (ok : m.Ok) (h : WaB m b c) (hj : j < 52) (hK : ∀ m', m'.Ok → Kp [b] m m' → WaB m' b { c with size := fupd c.size j x } → K m') : st m b (625 + j) (.int .i64 (x)) K := by
  obtain ⟨f, h1, h2, h3⟩ := h
  refine ⟨f, h1, h2, by rw [h3.size j hj]; rfl, hK _ (ok.setB h1) (Kp.setB h1 h2 _ (by simp)) ⟨_, Mem.setB_at _ _ _, h2, ?_⟩⟩
  exact ⟨(by rw [upd_ne _ _ (by omega)]; exact h3.t), (fun i hi => by rw [upd_ne _ _ (by omega)]; exact h3.lits i hi), (fun i hi => upd_arr (h3.size i hi)), (by rw [upd_ne _ _ (by omega)]; exact h3.used), (by rw [upd_ne _ _ (by omega)]; exact h3.fresh), (by rw [upd_ne _ _ (by omega)]; exact h3.weak), (fun i hi => by rw [upd_ne _ _ (by omega)]; exact h3.list i hi), (by rw [upd_ne _ _ (by omega)]; exact h3.visits)⟩
theorem WaB.st_used {m : Mem} {b : Nat} {c : WaC} {x : Int} {K : Mem → Prop} (ok : m.Ok) (h : WaB m b c) (hK : ∀ m', m'.Ok → Kp [b] m m' → WaB m' b { c with used := x } → K m') : st m b 677 (.int .u64 (x)) K := by
  obtain ⟨f, h1, h2, h3⟩ := h
  refine ⟨f, h1, h2, by rw [h3.used]; rfl, hK _ (ok.setB h1) (Kp.setB h1 h2 _ (by simp)) ⟨_, Mem.setB_at _ _ _, h2, ?_⟩⟩
  exact ⟨(by rw [upd_ne _ _ (by omega)]; exact h3.t), (fun i hi => by rw [upd_ne _ _ (by omega)]; exact h3.lits i hi), (fun i hi => by rw [upd_ne _ _ (by omega)]; exact h3.size i hi), (upd_at _ _ _), (by rw [upd_ne _ _ (by omega)]; exact h3.fresh), (by rw [upd_ne _ _ (by omega)]; exact h3.weak), (fun i hi => by rw [upd_ne _ _ (by omega)]; exact h3.list i hi), (by rw [upd_ne _ _ (by omega)]; exact h3.visits)⟩
theorem WaB.st_fresh {m : Mem} {b : Nat} {c : WaC} {x : Int} {K : Mem → Prop} (ok : m.Ok) (h : WaB m b c) (hK : ∀ m', m'.Ok → Kp [b] m m' → WaB m' b { c with fresh := x } → K m') : st m b 678 (.int .u64 (x)) K := by
  obtain ⟨f, h1, h2, h3⟩ := h
  refine ⟨f, h1, h2, by rw [h3.fresh]; rfl, hK _ (ok.setB h1) (Kp.setB h1 h2 _ (by simp)) ⟨_, Mem.setB_at _ _ _, h2, ?_⟩⟩
  exact ⟨(by rw [upd_ne _ _ (by omega)]; exact h3.t), (fun i hi => by rw [upd_ne _ _ (by omega)]; exact h3.lits i hi), (fun i hi => by rw [upd_ne _ _ (by omega)]; exact h3.size i hi), (by rw [upd_ne _ _ (by omega)]; exact h3.used), (upd_at _ _ _), (by rw [upd_ne _ _ (by omega)]; exact h3.weak), (fun i hi => by rw [upd_ne _ _ (by omega)]; exact h3.list i hi), (by rw [upd_ne _ _ (by omega)]; exact h3.visits)⟩
theorem WaB.st_weak {m : Mem} {b : Nat} {c : WaC} {x : Int} {K : Mem → Prop} (ok : m.Ok) (h : WaB m b c) (hK : ∀ m', m'.Ok → Kp [b] m m' → WaB m' b { c with weak := x } → K m') : st m b 679 (.int .u64 (x)) K := by
  obtain ⟨f, h1, h2, h3⟩ := h
  refine ⟨f, h1, h2, by rw [h3.weak]; rfl, hK _ (ok.setB h1) (Kp.setB h1 h2 _ (by simp)) ⟨_, Mem.setB_at _ _ _, h2, ?_⟩⟩
  exact ⟨(by rw [upd_ne _ _ (by omega)]; exact h3.t), (fun i hi => by rw [upd_ne _ _ (by omega)]; exact h3.lits i hi), (fun i hi => by rw [upd_ne _ _ (by omega)]; exact h3.size i hi), (by rw [upd_ne _ _ (by omega)]; exact h3.used), (by rw [upd_ne _ _ (by omega)]; exact h3.fresh), (upd_at _ _ _), (fun i hi => by rw [upd_ne _ _ (by omega)]; exact h3.list i hi), (by rw [upd_ne _ _ (by omega)]; exact h3.visits)⟩
theorem WaB.st_list {m : Mem} {b : Nat} {c : WaC} {j : Nat} {x : Int} {K : Mem → Prop} (ok : m.Ok) (h : WaB m b c) (hj : j < 26) (hK : ∀ m', m'.Ok → Kp [b] m m' → WaB m' b { c with list := fupd c.list j x } → K m') : st m b (680 + j) (.int .u64 (x)) K := by
  obtain ⟨f, h1, h2, h3⟩ := h
  refine ⟨f, h1, h2, by rw [h3.list j hj]; rfl, hK _ (ok.setB h1) (Kp.setB h1 h2 _ (by simp)) ⟨_, Mem.setB_at _ _ _, h2, ?_⟩⟩
  exact ⟨(by rw [upd_ne _ _ (by omega)]; exact h3.t), (fun i hi => by rw [upd_ne _ _ (by omega)]; exact h3.lits i hi), (fun i hi => by rw [upd_ne _ _ (by omega)]; exact h3.size i hi), (by rw [upd_ne _ _ (by omega)]; exact h3.used), (by rw [upd_ne _ _ (by omega)]; exact h3.fresh), (by rw [upd_ne _ _ (by omega)]; exact h3.weak), (fun i hi => upd_arr (h3.list i hi)), (by rw [upd_ne _ _ (by omega)]; exact h3.visits)⟩
theorem WaB.st_visits {m : Mem} {b : Nat} {c : WaC} {x : Int} {K : Mem → Prop} (ok : m.Ok) (h : WaB m b c) (hK : ∀ m', m'.Ok → Kp [b] m m' → WaB m' b { c with visits := x } → K m') : st m b 706 (.int .i64 (x)) K := by
  obtain ⟨f, h1, h2, h3⟩ := h
  refine ⟨f, h1, h2, by rw [h3.visits]; rfl, hK _ (ok.setB h1) (Kp.setB h1 h2 _ (by simp)) ⟨_, Mem.setB_at _ _ _, h2, ?_⟩⟩
  exact ⟨(by rw [upd_ne _ _ (by omega)]; exact h3.t), (fun i hi => by rw [upd_ne _ _ (by omega)]; exact h3.lits i hi), (fun i hi => by rw [upd_ne _ _ (by omega)]; exact h3.size i hi), (by rw [upd_ne _ _ (by omega)]; exact h3.used), (by rw [upd_ne _ _ (by omega)]; exact h3.fresh), (by rw [upd_ne _ _ (by omega)]; exact h3.weak), (fun i hi => by rw [upd_ne _ _ (by omega)]; exact h3.list i hi), (upd_at _ _ _)⟩
structure LeC where
  t : Nat
  w : Nat
  seen : Int
  pos : Int
  neg : Int
  open_ : Int
  lv : Int
structure LeF (f : Blk) (c : LeC) : Prop where
  t : f.cell 0 = some (ptr (c.t) 0)
  w : f.cell 1 = some (ptr (c.w) 0)
  seen : f.cell 2 = some (.int .u16 (c.seen))
  pos : f.cell 3 = some (.int .u16 (c.pos))
  neg : f.cell 4 = some (.int .u16 (c.neg))
  open_ : f.cell 5 = some (.int .i64 (c.open_))
  lv : f.cell 6 = some (.int .i64 (c.lv))
def LeB (m : Mem) (b : Nat) (c : LeC) : Prop := ∃ f, m.blk b = some f ∧ f.wr = true ∧ LeF f c
theorem LeB.keep {S : List Nat} {m m' : Mem} {b : Nat} {c : LeC} (h : LeB m b c) (hk : Kp S m m') (hb : b ∉ S) : LeB m' b c := by
  obtain ⟨f, h1, h2⟩ := h
  exact ⟨f, hk.keep b f hb h1, h2⟩
theorem LeB.lt {m : Mem} {b : Nat} {c : LeC} (ok : m.Ok) (h : LeB m b c) : b < m.top := by
  obtain ⟨f, h1, h2⟩ := h
  exact ok b f h1
theorem LeB.t {m : Mem} {b : Nat} {c : LeC} (h : LeB m b c) : m.cell b 0 = some (ptr (c.t) 0) := by
  obtain ⟨f, h1, h2, h3⟩ := h
  exact Mem.cell_of h1 h3.t
theorem LeB.w {m : Mem} {b : Nat} {c : LeC} (h : LeB m b c) : m.cell b 1 = some (ptr (c.w) 0) := by
  obtain ⟨f, h1, h2, h3⟩ := h
  exact Mem.cell_of h1 h3.w
theorem LeB.seen {m : Mem} {b : Nat} {c : LeC} (h : LeB m b c) : m.cell b 2 = some (.int .u16 (c.seen)) := by
  obtain ⟨f, h1, h2, h3⟩ := h
  exact Mem.cell_of h1 h3.seen
theorem LeB.pos {m : Mem} {b : Nat} {c : LeC} (h : LeB m b c) : m.cell b 3 = some (.int .u16 (c.pos)) := by
  obtain ⟨f, h1, h2, h3⟩ := h
  exact Mem.cell_of h1 h3.pos
theorem LeB.neg {m : Mem} {b : Nat} {c : LeC} (h : LeB m b c) : m.cell b 4 = some (.int .u16 (c.neg)) := by
  obtain ⟨f, h1, h2, h3⟩ := h
  exact Mem.cell_of h1 h3.neg
theorem LeB.open_ {m : Mem} {b : Nat} {c : LeC} (h : LeB m b c) : m.cell b 5 = some (.int .i64 (c.open_)) := by
  obtain ⟨f, h1, h2, h3⟩ := h
  exact Mem.cell_of h1 h3.open_
theorem LeB.lv {m : Mem} {b : Nat} {c : LeC} (h : LeB m b c) : m.cell b 6 = some (.int .i64 (c.lv)) := by
  obtain ⟨f, h1, h2, h3⟩ := h
  exact Mem.cell_of h1 h3.lv
theorem LeB.st_seen {m : Mem} {b : Nat} {c : LeC} {x : Int} {K : Mem → Prop} (ok : m.Ok) (h : LeB m b c) (hK : ∀ m', m'.Ok → Kp [b] m m' → LeB m' b { c with seen := x } → K m') : st m b 2 (.int .u16 (x)) K := by
  obtain ⟨f, h1, h2, h3⟩ := h
  refine ⟨f, h1, h2, by rw [h3.seen]; rfl, hK _ (ok.setB h1) (Kp.setB h1 h2 _ (by simp)) ⟨_, Mem.setB_at _ _ _, h2, ?_⟩⟩
  exact ⟨(by rw [upd_ne _ _ (by omega)]; exact h3.t), (by rw [upd_ne _ _ (by omega)]; exact h3.w), (upd_at _ _ _), (by rw [upd_ne _ _ (by omega)]; exact h3.pos), (by rw [upd_ne _ _ (by omega)]; exact h3.neg), (by rw [upd_ne _ _ (by omega)]; exact h3.open_), (by rw [upd_ne _ _ (by omega)]; exact h3.lv)⟩
theorem LeB.st_pos {m : Mem} {b : Nat} {c : LeC} {x : Int} {K : Mem → Prop} (ok : m.Ok) (h : LeB m b c) (hK : ∀ m', m'.Ok → Kp [b] m m' → LeB m' b { c with pos := x } → K m') : st m b 3 (.int .u16 (x)) K := by
  obtain ⟨f, h1, h2, h3⟩ := h
  refine ⟨f, h1, h2, by rw [h3.pos]; rfl, hK _ (ok.setB h1) (Kp.setB h1 h2 _ (by simp)) ⟨_, Mem.setB_at _ _ _, h2, ?_⟩⟩
  exact ⟨(by rw [upd_ne _ _ (by omega)]; exact h3.t), (by rw [upd_ne _ _ (by omega)]; exact h3.w), (by rw [upd_ne _ _ (by omega)]; exact h3.seen), (upd_at _ _ _), (by rw [upd_ne _ _ (by omega)]; exact h3.neg), (by rw [upd_ne _ _ (by omega)]; exact h3.open_), (by rw [upd_ne _ _ (by omega)]; exact h3.lv)⟩
theorem LeB.st_neg {m : Mem} {b : Nat} {c : LeC} {x : Int} {K : Mem → Prop} (ok : m.Ok) (h : LeB m b c) (hK : ∀ m', m'.Ok → Kp [b] m m' → LeB m' b { c with neg := x } → K m') : st m b 4 (.int .u16 (x)) K := by
  obtain ⟨f, h1, h2, h3⟩ := h
  refine ⟨f, h1, h2, by rw [h3.neg]; rfl, hK _ (ok.setB h1) (Kp.setB h1 h2 _ (by simp)) ⟨_, Mem.setB_at _ _ _, h2, ?_⟩⟩
  exact ⟨(by rw [upd_ne _ _ (by omega)]; exact h3.t), (by rw [upd_ne _ _ (by omega)]; exact h3.w), (by rw [upd_ne _ _ (by omega)]; exact h3.seen), (by rw [upd_ne _ _ (by omega)]; exact h3.pos), (upd_at _ _ _), (by rw [upd_ne _ _ (by omega)]; exact h3.open_), (by rw [upd_ne _ _ (by omega)]; exact h3.lv)⟩
theorem LeB.st_open_ {m : Mem} {b : Nat} {c : LeC} {x : Int} {K : Mem → Prop} (ok : m.Ok) (h : LeB m b c) (hK : ∀ m', m'.Ok → Kp [b] m m' → LeB m' b { c with open_ := x } → K m') : st m b 5 (.int .i64 (x)) K := by
  obtain ⟨f, h1, h2, h3⟩ := h
  refine ⟨f, h1, h2, by rw [h3.open_]; rfl, hK _ (ok.setB h1) (Kp.setB h1 h2 _ (by simp)) ⟨_, Mem.setB_at _ _ _, h2, ?_⟩⟩
  exact ⟨(by rw [upd_ne _ _ (by omega)]; exact h3.t), (by rw [upd_ne _ _ (by omega)]; exact h3.w), (by rw [upd_ne _ _ (by omega)]; exact h3.seen), (by rw [upd_ne _ _ (by omega)]; exact h3.pos), (by rw [upd_ne _ _ (by omega)]; exact h3.neg), (upd_at _ _ _), (by rw [upd_ne _ _ (by omega)]; exact h3.lv)⟩
theorem LeB.st_lv {m : Mem} {b : Nat} {c : LeC} {x : Int} {K : Mem → Prop} (ok : m.Ok) (h : LeB m b c) (hK : ∀ m', m'.Ok → Kp [b] m m' → LeB m' b { c with lv := x } → K m') : st m b 6 (.int .i64 (x)) K := by
  obtain ⟨f, h1, h2, h3⟩ := h
  refine ⟨f, h1, h2, by rw [h3.lv]; rfl, hK _ (ok.setB h1) (Kp.setB h1 h2 _ (by simp)) ⟨_, Mem.setB_at _ _ _, h2, ?_⟩⟩
  exact ⟨(by rw [upd_ne _ _ (by omega)]; exact h3.t), (by rw [upd_ne _ _ (by omega)]; exact h3.w), (by rw [upd_ne _ _ (by omega)]; exact h3.seen), (by rw [upd_ne _ _ (by omega)]; exact h3.pos), (by rw [upd_ne _ _ (by omega)]; exact h3.neg), (by rw [upd_ne _ _ (by omega)]; exact h3.open_), (upd_at _ _ _)⟩
structure SoC where
  p : Nat
  t : Nat
  w : Nat
  l : Nat
  log : Option Addr × Nat × Nat
  act : Nat → Int
  phase : Nat → Int
  inc : Int
  alive : Int
  count : Int
  conflicts : Int
  restarts : Int
  since : Int
structure SoF (f : Blk) (c : SoC) : Prop where
  p : f.cell 0 = some (ptr (c.p) 0)
  t : f.cell 1 = some (ptr (c.t) 0)
  w : f.cell 2 = some (ptr (c.w) 0)
  l : f.cell 3 = some (ptr (c.l) 0)
  log : f.cell 4 = some (.slice (c.log).1 (c.log).2.1 (c.log).2.2)
  act : ∀ i, i < 13 → f.cell (5 + i) = some (.int .i64 (c.act i))
  phase : ∀ i, i < 13 → f.cell (18 + i) = some (.int .i64 (c.phase i))
  inc : f.cell 31 = some (.int .i64 (c.inc))
  alive : f.cell 32 = some (.int .u16 (c.alive))
  count : f.cell 33 = some (.int .i64 (c.count))
  conflicts : f.cell 34 = some (.int .i64 (c.conflicts))
  restarts : f.cell 35 = some (.int .i64 (c.restarts))
  since : f.cell 36 = some (.int .i64 (c.since))
def SoB (m : Mem) (b : Nat) (c : SoC) : Prop := ∃ f, m.blk b = some f ∧ f.wr = true ∧ SoF f c
theorem SoB.keep {S : List Nat} {m m' : Mem} {b : Nat} {c : SoC} (h : SoB m b c) (hk : Kp S m m') (hb : b ∉ S) : SoB m' b c := by
  obtain ⟨f, h1, h2⟩ := h
  exact ⟨f, hk.keep b f hb h1, h2⟩
theorem SoB.lt {m : Mem} {b : Nat} {c : SoC} (ok : m.Ok) (h : SoB m b c) : b < m.top := by
  obtain ⟨f, h1, h2⟩ := h
  exact ok b f h1
theorem SoB.p {m : Mem} {b : Nat} {c : SoC} (h : SoB m b c) : m.cell b 0 = some (ptr (c.p) 0) := by
  obtain ⟨f, h1, h2, h3⟩ := h
  exact Mem.cell_of h1 h3.p
theorem SoB.t {m : Mem} {b : Nat} {c : SoC} (h : SoB m b c) : m.cell b 1 = some (ptr (c.t) 0) := by
  obtain ⟨f, h1, h2, h3⟩ := h
  exact Mem.cell_of h1 h3.t
theorem SoB.w {m : Mem} {b : Nat} {c : SoC} (h : SoB m b c) : m.cell b 2 = some (ptr (c.w) 0) := by
  obtain ⟨f, h1, h2, h3⟩ := h
  exact Mem.cell_of h1 h3.w
theorem SoB.l {m : Mem} {b : Nat} {c : SoC} (h : SoB m b c) : m.cell b 3 = some (ptr (c.l) 0) := by
  obtain ⟨f, h1, h2, h3⟩ := h
  exact Mem.cell_of h1 h3.l
theorem SoB.log {m : Mem} {b : Nat} {c : SoC} (h : SoB m b c) : m.cell b 4 = some (.slice (c.log).1 (c.log).2.1 (c.log).2.2) := by
  obtain ⟨f, h1, h2, h3⟩ := h
  exact Mem.cell_of h1 h3.log
theorem SoB.act {m : Mem} {b : Nat} {c : SoC} (h : SoB m b c) {j : Nat} (hj : j < 13) : m.cell b (5 + j) = some (.int .i64 (c.act j)) := by
  obtain ⟨f, h1, h2, h3⟩ := h
  exact Mem.cell_of h1 (h3.act j hj)
theorem SoB.phase {m : Mem} {b : Nat} {c : SoC} (h : SoB m b c) {j : Nat} (hj : j < 13) : m.cell b (18 + j) = some (.int .i64 (c.phase j)) := by
  obtain ⟨f, h1, h2, h3⟩ := h
  exact Mem.cell_of h1 (h3.phase j hj)
theorem SoB.inc {m : Mem} {b : Nat} {c : SoC} (h : SoB m b c) : m.cell b 31 = some (.int .i64 (c.inc)) := by
  obtain ⟨f, h1, h2, h3⟩ := h
  exact Mem.cell_of h1 h3.inc
theorem SoB.alive {m : Mem} {b : Nat} {c : SoC} (h : SoB m b c) : m.cell b 32 = some (.int .u16 (c.alive)) := by
  obtain ⟨f, h1, h2, h3⟩ := h
  exact Mem.cell_of h1 h3.alive
theorem SoB.count {m : Mem} {b : Nat} {c : SoC} (h : SoB m b c) : m.cell b 33 = some (.int .i64 (c.count)) := by
  obtain ⟨f, h1, h2, h3⟩ := h
  exact Mem.cell_of h1 h3.count
theorem SoB.conflicts {m : Mem} {b : Nat} {c : SoC} (h : SoB m b c) : m.cell b 34 = some (.int .i64 (c.conflicts)) := by
  obtain ⟨f, h1, h2, h3⟩ := h
  exact Mem.cell_of h1 h3.conflicts
theorem SoB.restarts {m : Mem} {b : Nat} {c : SoC} (h : SoB m b c) : m.cell b 35 = some (.int .i64 (c.restarts)) := by
  obtain ⟨f, h1, h2, h3⟩ := h
  exact Mem.cell_of h1 h3.restarts
theorem SoB.since {m : Mem} {b : Nat} {c : SoC} (h : SoB m b c) : m.cell b 36 = some (.int .i64 (c.since)) := by
  obtain ⟨f, h1, h2, h3⟩ := h
  exact Mem.cell_of h1 h3.since
theorem SoB.st_log {m : Mem} {b : Nat} {c : SoC} {x : Option Addr × Nat × Nat} {K : Mem → Prop} (ok : m.Ok) (h : SoB m b c) (hK : ∀ m', m'.Ok → Kp [b] m m' → SoB m' b { c with log := x } → K m') : st m b 4 (.slice (x).1 (x).2.1 (x).2.2) K := by
  obtain ⟨f, h1, h2, h3⟩ := h
  refine ⟨f, h1, h2, by rw [h3.log]; rfl, hK _ (ok.setB h1) (Kp.setB h1 h2 _ (by simp)) ⟨_, Mem.setB_at _ _ _, h2, ?_⟩⟩
  exact ⟨(by rw [upd_ne _ _ (by omega)]; exact h3.p), (by rw [upd_ne _ _ (by omega)]; exact h3.t), (by rw [upd_ne _ _ (by omega)]; exact h3.w), (by rw [upd_ne _ _ (by omega)]; exact h3.l), (upd_at _ _ _), (fun i hi => by rw [upd_ne _ _ (by omega)]; exact h3.act i hi), (fun i hi => by rw [upd_ne _ _ (by omega)]; exact h3.phase i hi), (by rw [upd_ne _ _ (by omega)]; exact h3.inc), (by rw [upd_ne _ _ (by omega)]; exact h3.alive), (by rw [upd_ne _ _ (by omega)]; exact h3.count), (by rw [upd_ne _ _ (by omega)]; exact h3.conflicts), (by rw [upd_ne _ _ (by omega)]; exact h3.restarts), (by rw [upd_ne _ _ (by omega)]; exact h3.since)⟩
theorem SoB.st_act {m : Mem} {b : Nat} {c : SoC} {j : Nat} {x : Int} {K : Mem → Prop} (ok : m.Ok) (h : SoB m b c) (hj : j < 13) (hK : ∀ m', m'.Ok → Kp [b] m m' → SoB m' b { c with act := fupd c.act j x } → K m') : st m b (5 + j) (.int .i64 (x)) K := by
  obtain ⟨f, h1, h2, h3⟩ := h
  refine ⟨f, h1, h2, by rw [h3.act j hj]; rfl, hK _ (ok.setB h1) (Kp.setB h1 h2 _ (by simp)) ⟨_, Mem.setB_at _ _ _, h2, ?_⟩⟩
  exact ⟨(by rw [upd_ne _ _ (by omega)]; exact h3.p), (by rw [upd_ne _ _ (by omega)]; exact h3.t), (by rw [upd_ne _ _ (by omega)]; exact h3.w), (by rw [upd_ne _ _ (by omega)]; exact h3.l), (by rw [upd_ne _ _ (by omega)]; exact h3.log), (fun i hi => upd_arr (h3.act i hi)), (fun i hi => by rw [upd_ne _ _ (by omega)]; exact h3.phase i hi), (by rw [upd_ne _ _ (by omega)]; exact h3.inc), (by rw [upd_ne _ _ (by omega)]; exact h3.alive), (by rw [upd_ne _ _ (by omega)]; exact h3.count), (by rw [upd_ne _ _ (by omega)]; exact h3.conflicts), (by rw [upd_ne _ _ (by omega)]; exact h3.restarts), (by rw [upd_ne _ _ (by omega)]; exact h3.since)⟩
theorem SoB.st_phase {m : Mem} {b : Nat} {c : SoC} {j : Nat} {x : Int} {K : Mem → Prop} (ok : m.Ok) (h : SoB m b c) (hj : j < 13) (hK : ∀ m', m'.Ok → Kp [b] m m' → SoB m' b { c with phase := fupd c.phase j x } → K m') : st m b (18 + j) (.int .i64 (x)) K := by
  obtain ⟨f, h1, h2, h3⟩ := h
  refine ⟨f, h1, h2, by rw [h3.phase j hj]; rfl, hK _ (ok.setB h1) (Kp.setB h1 h2 _ (by simp)) ⟨_, Mem.setB_at _ _ _, h2, ?_⟩⟩
  exact ⟨(by rw [upd_ne _ _ (by omega)]; exact h3.p), (by rw [upd_ne _ _ (by omega)]; exact h3.t), (by rw [upd_ne _ _ (by omega)]; exact h3.w), (by rw [upd_ne _ _ (by omega)]; exact h3.l), (by rw [upd_ne _ _ (by omega)]; exact h3.log), (fun i hi => by rw [upd_ne _ _ (by omega)]; exact h3.act i hi), (fun i hi => upd_arr (h3.phase i hi)), (by rw [upd_ne _ _ (by omega)]; exact h3.inc), (by rw [upd_ne _ _ (by omega)]; exact h3.alive), (by rw [upd_ne _ _ (by omega)]; exact h3.count), (by rw [upd_ne _ _ (by omega)]; exact h3.conflicts), (by rw [upd_ne _ _ (by omega)]; exact h3.restarts), (by rw [upd_ne _ _ (by omega)]; exact h3.since)⟩
theorem SoB.st_inc {m : Mem} {b : Nat} {c : SoC} {x : Int} {K : Mem → Prop} (ok : m.Ok) (h : SoB m b c) (hK : ∀ m', m'.Ok → Kp [b] m m' → SoB m' b { c with inc := x } → K m') : st m b 31 (.int .i64 (x)) K := by
  obtain ⟨f, h1, h2, h3⟩ := h
  refine ⟨f, h1, h2, by rw [h3.inc]; rfl, hK _ (ok.setB h1) (Kp.setB h1 h2 _ (by simp)) ⟨_, Mem.setB_at _ _ _, h2, ?_⟩⟩
  exact ⟨(by rw [upd_ne _ _ (by omega)]; exact h3.p), (by rw [upd_ne _ _ (by omega)]; exact h3.t), (by rw [upd_ne _ _ (by omega)]; exact h3.w), (by rw [upd_ne _ _ (by omega)]; exact h3.l), (by rw [upd_ne _ _ (by omega)]; exact h3.log), (fun i hi => by rw [upd_ne _ _ (by omega)]; exact h3.act i hi), (fun i hi => by rw [upd_ne _ _ (by omega)]; exact h3.phase i hi), (upd_at _ _ _), (by rw [upd_ne _ _ (by omega)]; exact h3.alive), (by rw [upd_ne _ _ (by omega)]; exact h3.count), (by rw [upd_ne _ _ (by omega)]; exact h3.conflicts), (by rw [upd_ne _ _ (by omega)]; exact h3.restarts), (by rw [upd_ne _ _ (by omega)]; exact h3.since)⟩
theorem SoB.st_alive {m : Mem} {b : Nat} {c : SoC} {x : Int} {K : Mem → Prop} (ok : m.Ok) (h : SoB m b c) (hK : ∀ m', m'.Ok → Kp [b] m m' → SoB m' b { c with alive := x } → K m') : st m b 32 (.int .u16 (x)) K := by
  obtain ⟨f, h1, h2, h3⟩ := h
  refine ⟨f, h1, h2, by rw [h3.alive]; rfl, hK _ (ok.setB h1) (Kp.setB h1 h2 _ (by simp)) ⟨_, Mem.setB_at _ _ _, h2, ?_⟩⟩
  exact ⟨(by rw [upd_ne _ _ (by omega)]; exact h3.p), (by rw [upd_ne _ _ (by omega)]; exact h3.t), (by rw [upd_ne _ _ (by omega)]; exact h3.w), (by rw [upd_ne _ _ (by omega)]; exact h3.l), (by rw [upd_ne _ _ (by omega)]; exact h3.log), (fun i hi => by rw [upd_ne _ _ (by omega)]; exact h3.act i hi), (fun i hi => by rw [upd_ne _ _ (by omega)]; exact h3.phase i hi), (by rw [upd_ne _ _ (by omega)]; exact h3.inc), (upd_at _ _ _), (by rw [upd_ne _ _ (by omega)]; exact h3.count), (by rw [upd_ne _ _ (by omega)]; exact h3.conflicts), (by rw [upd_ne _ _ (by omega)]; exact h3.restarts), (by rw [upd_ne _ _ (by omega)]; exact h3.since)⟩
theorem SoB.st_count {m : Mem} {b : Nat} {c : SoC} {x : Int} {K : Mem → Prop} (ok : m.Ok) (h : SoB m b c) (hK : ∀ m', m'.Ok → Kp [b] m m' → SoB m' b { c with count := x } → K m') : st m b 33 (.int .i64 (x)) K := by
  obtain ⟨f, h1, h2, h3⟩ := h
  refine ⟨f, h1, h2, by rw [h3.count]; rfl, hK _ (ok.setB h1) (Kp.setB h1 h2 _ (by simp)) ⟨_, Mem.setB_at _ _ _, h2, ?_⟩⟩
  exact ⟨(by rw [upd_ne _ _ (by omega)]; exact h3.p), (by rw [upd_ne _ _ (by omega)]; exact h3.t), (by rw [upd_ne _ _ (by omega)]; exact h3.w), (by rw [upd_ne _ _ (by omega)]; exact h3.l), (by rw [upd_ne _ _ (by omega)]; exact h3.log), (fun i hi => by rw [upd_ne _ _ (by omega)]; exact h3.act i hi), (fun i hi => by rw [upd_ne _ _ (by omega)]; exact h3.phase i hi), (by rw [upd_ne _ _ (by omega)]; exact h3.inc), (by rw [upd_ne _ _ (by omega)]; exact h3.alive), (upd_at _ _ _), (by rw [upd_ne _ _ (by omega)]; exact h3.conflicts), (by rw [upd_ne _ _ (by omega)]; exact h3.restarts), (by rw [upd_ne _ _ (by omega)]; exact h3.since)⟩
theorem SoB.st_conflicts {m : Mem} {b : Nat} {c : SoC} {x : Int} {K : Mem → Prop} (ok : m.Ok) (h : SoB m b c) (hK : ∀ m', m'.Ok → Kp [b] m m' → SoB m' b { c with conflicts := x } → K m') : st m b 34 (.int .i64 (x)) K := by
  obtain ⟨f, h1, h2, h3⟩ := h
  refine ⟨f, h1, h2, by rw [h3.conflicts]; rfl, hK _ (ok.setB h1) (Kp.setB h1 h2 _ (by simp)) ⟨_, Mem.setB_at _ _ _, h2, ?_⟩⟩
  exact ⟨(by rw [upd_ne _ _ (by omega)]; exact h3.p), (by rw [upd_ne _ _ (by omega)]; exact h3.t), (by rw [upd_ne _ _ (by omega)]; exact h3.w), (by rw [upd_ne _ _ (by omega)]; exact h3.l), (by rw [upd_ne _ _ (by omega)]; exact h3.log), (fun i hi => by rw [upd_ne _ _ (by omega)]; exact h3.act i hi), (fun i hi => by rw [upd_ne _ _ (by omega)]; exact h3.phase i hi), (by rw [upd_ne _ _ (by omega)]; exact h3.inc), (by rw [upd_ne _ _ (by omega)]; exact h3.alive), (by rw [upd_ne _ _ (by omega)]; exact h3.count), (upd_at _ _ _), (by rw [upd_ne _ _ (by omega)]; exact h3.restarts), (by rw [upd_ne _ _ (by omega)]; exact h3.since)⟩
theorem SoB.st_restarts {m : Mem} {b : Nat} {c : SoC} {x : Int} {K : Mem → Prop} (ok : m.Ok) (h : SoB m b c) (hK : ∀ m', m'.Ok → Kp [b] m m' → SoB m' b { c with restarts := x } → K m') : st m b 35 (.int .i64 (x)) K := by
  obtain ⟨f, h1, h2, h3⟩ := h
  refine ⟨f, h1, h2, by rw [h3.restarts]; rfl, hK _ (ok.setB h1) (Kp.setB h1 h2 _ (by simp)) ⟨_, Mem.setB_at _ _ _, h2, ?_⟩⟩
  exact ⟨(by rw [upd_ne _ _ (by omega)]; exact h3.p), (by rw [upd_ne _ _ (by omega)]; exact h3.t), (by rw [upd_ne _ _ (by omega)]; exact h3.w), (by rw [upd_ne _ _ (by omega)]; exact h3.l), (by rw [upd_ne _ _ (by omega)]; exact h3.log), (fun i hi => by rw [upd_ne _ _ (by omega)]; exact h3.act i hi), (fun i hi => by rw [upd_ne _ _ (by omega)]; exact h3.phase i hi), (by rw [upd_ne _ _ (by omega)]; exact h3.inc), (by rw [upd_ne _ _ (by omega)]; exact h3.alive), (by rw [upd_ne _ _ (by omega)]; exact h3.count), (by rw [upd_ne _ _ (by omega)]; exact h3.conflicts), (upd_at _ _ _), (by rw [upd_ne _ _ (by omega)]; exact h3.since)⟩
theorem SoB.st_since {m : Mem} {b : Nat} {c : SoC} {x : Int} {K : Mem → Prop} (ok : m.Ok) (h : SoB m b c) (hK : ∀ m', m'.Ok → Kp [b] m m' → SoB m' b { c with since := x } → K m') : st m b 36 (.int .i64 (x)) K := by
  obtain ⟨f, h1, h2, h3⟩ := h
  refine ⟨f, h1, h2, by rw [h3.since]; rfl, hK _ (ok.setB h1) (Kp.setB h1 h2 _ (by simp)) ⟨_, Mem.setB_at _ _ _, h2, ?_⟩⟩
  exact ⟨(by rw [upd_ne _ _ (by omega)]; exact h3.p), (by rw [upd_ne _ _ (by omega)]; exact h3.t), (by rw [upd_ne _ _ (by omega)]; exact h3.w), (by rw [upd_ne _ _ (by omega)]; exact h3.l), (by rw [upd_ne _ _ (by omega)]; exact h3.log), (fun i hi => by rw [upd_ne _ _ (by omega)]; exact h3.act i hi), (fun i hi => by rw [upd_ne _ _ (by omega)]; exact h3.phase i hi), (by rw [upd_ne _ _ (by omega)]; exact h3.inc), (by rw [upd_ne _ _ (by omega)]; exact h3.alive), (by rw [upd_ne _ _ (by omega)]; exact h3.count), (by rw [upd_ne _ _ (by omega)]; exact h3.conflicts), (by rw [upd_ne _ _ (by omega)]; exact h3.restarts), (upd_at _ _ _)⟩
structure PaC where
  arena : Option Addr × Nat × Nat
  state : Int
  start : Int
  minus : Bool
  val : Int
  pos : Int
  neg : Int
  del : Bool
  open_ : Bool
  err : Int
  at_ : Int
structure PaF (f : Blk) (c : PaC) : Prop where
  arena : f.cell 0 = some (.slice (c.arena).1 (c.arena).2.1 (c.arena).2.2)
  state : f.cell 1 = some (.int .i64 (c.state))
  start : f.cell 2 = some (.int .i64 (c.start))
  minus : f.cell 3 = some (.bool (c.minus))
  val : f.cell 4 = some (.int .i64 (c.val))
  pos : f.cell 5 = some (.int .u16 (c.pos))
  neg : f.cell 6 = some (.int .u16 (c.neg))
  del : f.cell 7 = some (.bool (c.del))
  open_ : f.cell 8 = some (.bool (c.open_))
  err : f.cell 9 = some (.int .i64 (c.err))
  at_ : f.cell 10 = some (.int .i64 (c.at_))
def PaB (m : Mem) (b : Nat) (c : PaC) : Prop := ∃ f, m.blk b = some f ∧ f.wr = true ∧ PaF f c
theorem PaB.keep {S : List Nat} {m m' : Mem} {b : Nat} {c : PaC} (h : PaB m b c) (hk : Kp S m m') (hb : b ∉ S) : PaB m' b c := by
  obtain ⟨f, h1, h2⟩ := h
  exact ⟨f, hk.keep b f hb h1, h2⟩
theorem PaB.lt {m : Mem} {b : Nat} {c : PaC} (ok : m.Ok) (h : PaB m b c) : b < m.top := by
  obtain ⟨f, h1, h2⟩ := h
  exact ok b f h1
theorem PaB.arena {m : Mem} {b : Nat} {c : PaC} (h : PaB m b c) : m.cell b 0 = some (.slice (c.arena).1 (c.arena).2.1 (c.arena).2.2) := by
  obtain ⟨f, h1, h2, h3⟩ := h
  exact Mem.cell_of h1 h3.arena
theorem PaB.state {m : Mem} {b : Nat} {c : PaC} (h : PaB m b c) : m.cell b 1 = some (.int .i64 (c.state)) := by
  obtain ⟨f, h1, h2, h3⟩ := h
  exact Mem.cell_of h1 h3.state
theorem PaB.start {m : Mem} {b : Nat} {c : PaC} (h : PaB m b c) : m.cell b 2 = some (.int .i64 (c.start)) := by
  obtain ⟨f, h1, h2, h3⟩ := h
  exact Mem.cell_of h1 h3.start
theorem PaB.minus {m : Mem} {b : Nat} {c : PaC} (h : PaB m b c) : m.cell b 3 = some (.bool (c.minus)) := by
  obtain ⟨f, h1, h2, h3⟩ := h
  exact Mem.cell_of h1 h3.minus
theorem PaB.val {m : Mem} {b : Nat} {c : PaC} (h : PaB m b c) : m.cell b 4 = some (.int .i64 (c.val)) := by
  obtain ⟨f, h1, h2, h3⟩ := h
  exact Mem.cell_of h1 h3.val
theorem PaB.pos {m : Mem} {b : Nat} {c : PaC} (h : PaB m b c) : m.cell b 5 = some (.int .u16 (c.pos)) := by
  obtain ⟨f, h1, h2, h3⟩ := h
  exact Mem.cell_of h1 h3.pos
theorem PaB.neg {m : Mem} {b : Nat} {c : PaC} (h : PaB m b c) : m.cell b 6 = some (.int .u16 (c.neg)) := by
  obtain ⟨f, h1, h2, h3⟩ := h
  exact Mem.cell_of h1 h3.neg
theorem PaB.del {m : Mem} {b : Nat} {c : PaC} (h : PaB m b c) : m.cell b 7 = some (.bool (c.del)) := by
  obtain ⟨f, h1, h2, h3⟩ := h
  exact Mem.cell_of h1 h3.del
theorem PaB.open_ {m : Mem} {b : Nat} {c : PaC} (h : PaB m b c) : m.cell b 8 = some (.bool (c.open_)) := by
  obtain ⟨f, h1, h2, h3⟩ := h
  exact Mem.cell_of h1 h3.open_
theorem PaB.err {m : Mem} {b : Nat} {c : PaC} (h : PaB m b c) : m.cell b 9 = some (.int .i64 (c.err)) := by
  obtain ⟨f, h1, h2, h3⟩ := h
  exact Mem.cell_of h1 h3.err
theorem PaB.at_ {m : Mem} {b : Nat} {c : PaC} (h : PaB m b c) : m.cell b 10 = some (.int .i64 (c.at_)) := by
  obtain ⟨f, h1, h2, h3⟩ := h
  exact Mem.cell_of h1 h3.at_
theorem PaB.st_arena {m : Mem} {b : Nat} {c : PaC} {x : Option Addr × Nat × Nat} {K : Mem → Prop} (ok : m.Ok) (h : PaB m b c) (hK : ∀ m', m'.Ok → Kp [b] m m' → PaB m' b { c with arena := x } → K m') : st m b 0 (.slice (x).1 (x).2.1 (x).2.2) K := by
  obtain ⟨f, h1, h2, h3⟩ := h
  refine ⟨f, h1, h2, by rw [h3.arena]; rfl, hK _ (ok.setB h1) (Kp.setB h1 h2 _ (by simp)) ⟨_, Mem.setB_at _ _ _, h2, ?_⟩⟩
  exact ⟨(upd_at _ _ _), (by rw [upd_ne _ _ (by omega)]; exact h3.state), (by rw [upd_ne _ _ (by omega)]; exact h3.start), (by rw [upd_ne _ _ (by omega)]; exact h3.minus), (by rw [upd_ne _ _ (by omega)]; exact h3.val), (by rw [upd_ne _ _ (by omega)]; exact h3.pos), (by rw [upd_ne _ _ (by omega)]; exact h3.neg), (by rw [upd_ne _ _ (by omega)]; exact h3.del), (by rw [upd_ne _ _ (by omega)]; exact h3.open_), (by rw [upd_ne _ _ (by omega)]; exact h3.err), (by rw [upd_ne _ _ (by omega)]; exact h3.at_)⟩
theorem PaB.st_state {m : Mem} {b : Nat} {c : PaC} {x : Int} {K : Mem → Prop} (ok : m.Ok) (h : PaB m b c) (hK : ∀ m', m'.Ok → Kp [b] m m' → PaB m' b { c with state := x } → K m') : st m b 1 (.int .i64 (x)) K := by
  obtain ⟨f, h1, h2, h3⟩ := h
  refine ⟨f, h1, h2, by rw [h3.state]; rfl, hK _ (ok.setB h1) (Kp.setB h1 h2 _ (by simp)) ⟨_, Mem.setB_at _ _ _, h2, ?_⟩⟩
  exact ⟨(by rw [upd_ne _ _ (by omega)]; exact h3.arena), (upd_at _ _ _), (by rw [upd_ne _ _ (by omega)]; exact h3.start), (by rw [upd_ne _ _ (by omega)]; exact h3.minus), (by rw [upd_ne _ _ (by omega)]; exact h3.val), (by rw [upd_ne _ _ (by omega)]; exact h3.pos), (by rw [upd_ne _ _ (by omega)]; exact h3.neg), (by rw [upd_ne _ _ (by omega)]; exact h3.del), (by rw [upd_ne _ _ (by omega)]; exact h3.open_), (by rw [upd_ne _ _ (by omega)]; exact h3.err), (by rw [upd_ne _ _ (by omega)]; exact h3.at_)⟩
theorem PaB.st_start {m : Mem} {b : Nat} {c : PaC} {x : Int} {K : Mem → Prop} (ok : m.Ok) (h : PaB m b c) (hK : ∀ m', m'.Ok → Kp [b] m m' → PaB m' b { c with start := x } → K m') : st m b 2 (.int .i64 (x)) K := by
  obtain ⟨f, h1, h2, h3⟩ := h
  refine ⟨f, h1, h2, by rw [h3.start]; rfl, hK _ (ok.setB h1) (Kp.setB h1 h2 _ (by simp)) ⟨_, Mem.setB_at _ _ _, h2, ?_⟩⟩
  exact ⟨(by rw [upd_ne _ _ (by omega)]; exact h3.arena), (by rw [upd_ne _ _ (by omega)]; exact h3.state), (upd_at _ _ _), (by rw [upd_ne _ _ (by omega)]; exact h3.minus), (by rw [upd_ne _ _ (by omega)]; exact h3.val), (by rw [upd_ne _ _ (by omega)]; exact h3.pos), (by rw [upd_ne _ _ (by omega)]; exact h3.neg), (by rw [upd_ne _ _ (by omega)]; exact h3.del), (by rw [upd_ne _ _ (by omega)]; exact h3.open_), (by rw [upd_ne _ _ (by omega)]; exact h3.err), (by rw [upd_ne _ _ (by omega)]; exact h3.at_)⟩
theorem PaB.st_minus {m : Mem} {b : Nat} {c : PaC} {x : Bool} {K : Mem → Prop} (ok : m.Ok) (h : PaB m b c) (hK : ∀ m', m'.Ok → Kp [b] m m' → PaB m' b { c with minus := x } → K m') : st m b 3 (.bool (x)) K := by
  obtain ⟨f, h1, h2, h3⟩ := h
  refine ⟨f, h1, h2, by rw [h3.minus]; rfl, hK _ (ok.setB h1) (Kp.setB h1 h2 _ (by simp)) ⟨_, Mem.setB_at _ _ _, h2, ?_⟩⟩
  exact ⟨(by rw [upd_ne _ _ (by omega)]; exact h3.arena), (by rw [upd_ne _ _ (by omega)]; exact h3.state), (by rw [upd_ne _ _ (by omega)]; exact h3.start), (upd_at _ _ _), (by rw [upd_ne _ _ (by omega)]; exact h3.val), (by rw [upd_ne _ _ (by omega)]; exact h3.pos), (by rw [upd_ne _ _ (by omega)]; exact h3.neg), (by rw [upd_ne _ _ (by omega)]; exact h3.del), (by rw [upd_ne _ _ (by omega)]; exact h3.open_), (by rw [upd_ne _ _ (by omega)]; exact h3.err), (by rw [upd_ne _ _ (by omega)]; exact h3.at_)⟩
theorem PaB.st_val {m : Mem} {b : Nat} {c : PaC} {x : Int} {K : Mem → Prop} (ok : m.Ok) (h : PaB m b c) (hK : ∀ m', m'.Ok → Kp [b] m m' → PaB m' b { c with val := x } → K m') : st m b 4 (.int .i64 (x)) K := by
  obtain ⟨f, h1, h2, h3⟩ := h
  refine ⟨f, h1, h2, by rw [h3.val]; rfl, hK _ (ok.setB h1) (Kp.setB h1 h2 _ (by simp)) ⟨_, Mem.setB_at _ _ _, h2, ?_⟩⟩
  exact ⟨(by rw [upd_ne _ _ (by omega)]; exact h3.arena), (by rw [upd_ne _ _ (by omega)]; exact h3.state), (by rw [upd_ne _ _ (by omega)]; exact h3.start), (by rw [upd_ne _ _ (by omega)]; exact h3.minus), (upd_at _ _ _), (by rw [upd_ne _ _ (by omega)]; exact h3.pos), (by rw [upd_ne _ _ (by omega)]; exact h3.neg), (by rw [upd_ne _ _ (by omega)]; exact h3.del), (by rw [upd_ne _ _ (by omega)]; exact h3.open_), (by rw [upd_ne _ _ (by omega)]; exact h3.err), (by rw [upd_ne _ _ (by omega)]; exact h3.at_)⟩
theorem PaB.st_pos {m : Mem} {b : Nat} {c : PaC} {x : Int} {K : Mem → Prop} (ok : m.Ok) (h : PaB m b c) (hK : ∀ m', m'.Ok → Kp [b] m m' → PaB m' b { c with pos := x } → K m') : st m b 5 (.int .u16 (x)) K := by
  obtain ⟨f, h1, h2, h3⟩ := h
  refine ⟨f, h1, h2, by rw [h3.pos]; rfl, hK _ (ok.setB h1) (Kp.setB h1 h2 _ (by simp)) ⟨_, Mem.setB_at _ _ _, h2, ?_⟩⟩
  exact ⟨(by rw [upd_ne _ _ (by omega)]; exact h3.arena), (by rw [upd_ne _ _ (by omega)]; exact h3.state), (by rw [upd_ne _ _ (by omega)]; exact h3.start), (by rw [upd_ne _ _ (by omega)]; exact h3.minus), (by rw [upd_ne _ _ (by omega)]; exact h3.val), (upd_at _ _ _), (by rw [upd_ne _ _ (by omega)]; exact h3.neg), (by rw [upd_ne _ _ (by omega)]; exact h3.del), (by rw [upd_ne _ _ (by omega)]; exact h3.open_), (by rw [upd_ne _ _ (by omega)]; exact h3.err), (by rw [upd_ne _ _ (by omega)]; exact h3.at_)⟩
theorem PaB.st_neg {m : Mem} {b : Nat} {c : PaC} {x : Int} {K : Mem → Prop} (ok : m.Ok) (h : PaB m b c) (hK : ∀ m', m'.Ok → Kp [b] m m' → PaB m' b { c with neg := x } → K m') : st m b 6 (.int .u16 (x)) K := by
  obtain ⟨f, h1, h2, h3⟩ := h
  refine ⟨f, h1, h2, by rw [h3.neg]; rfl, hK _ (ok.setB h1) (Kp.setB h1 h2 _ (by simp)) ⟨_, Mem.setB_at _ _ _, h2, ?_⟩⟩
  exact ⟨(by rw [upd_ne _ _ (by omega)]; exact h3.arena), (by rw [upd_ne _ _ (by omega)]; exact h3.state), (by rw [upd_ne _ _ (by omega)]; exact h3.start), (by rw [upd_ne _ _ (by omega)]; exact h3.minus), (by rw [upd_ne _ _ (by omega)]; exact h3.val), (by rw [upd_ne _ _ (by omega)]; exact h3.pos), (upd_at _ _ _), (by rw [upd_ne _ _ (by omega)]; exact h3.del), (by rw [upd_ne _ _ (by omega)]; exact h3.open_), (by rw [upd_ne _ _ (by omega)]; exact h3.err), (by rw [upd_ne _ _ (by omega)]; exact h3.at_)⟩
theorem PaB.st_del {m : Mem} {b : Nat} {c : PaC} {x : Bool} {K : Mem → Prop} (ok : m.Ok) (h : PaB m b c) (hK : ∀ m', m'.Ok → Kp [b] m m' → PaB m' b { c with del := x } → K m') : st m b 7 (.bool (x)) K := by
  obtain ⟨f, h1, h2, h3⟩ := h
  refine ⟨f, h1, h2, by rw [h3.del]; rfl, hK _ (ok.setB h1) (Kp.setB h1 h2 _ (by simp)) ⟨_, Mem.setB_at _ _ _, h2, ?_⟩⟩
  exact ⟨(by rw [upd_ne _ _ (by omega)]; exact h3.arena), (by rw [upd_ne _ _ (by omega)]; exact h3.state), (by rw [upd_ne _ _ (by omega)]; exact h3.start), (by rw [upd_ne _ _ (by omega)]; exact h3.minus), (by rw [upd_ne _ _ (by omega)]; exact h3.val), (by rw [upd_ne _ _ (by omega)]; exact h3.pos), (by rw [upd_ne _ _ (by omega)]; exact h3.neg), (upd_at _ _ _), (by rw [upd_ne _ _ (by omega)]; exact h3.open_), (by rw [upd_ne _ _ (by omega)]; exact h3.err), (by rw [upd_ne _ _ (by omega)]; exact h3.at_)⟩
theorem PaB.st_open_ {m : Mem} {b : Nat} {c : PaC} {x : Bool} {K : Mem → Prop} (ok : m.Ok) (h : PaB m b c) (hK : ∀ m', m'.Ok → Kp [b] m m' → PaB m' b { c with open_ := x } → K m') : st m b 8 (.bool (x)) K := by
  obtain ⟨f, h1, h2, h3⟩ := h
  refine ⟨f, h1, h2, by rw [h3.open_]; rfl, hK _ (ok.setB h1) (Kp.setB h1 h2 _ (by simp)) ⟨_, Mem.setB_at _ _ _, h2, ?_⟩⟩
  exact ⟨(by rw [upd_ne _ _ (by omega)]; exact h3.arena), (by rw [upd_ne _ _ (by omega)]; exact h3.state), (by rw [upd_ne _ _ (by omega)]; exact h3.start), (by rw [upd_ne _ _ (by omega)]; exact h3.minus), (by rw [upd_ne _ _ (by omega)]; exact h3.val), (by rw [upd_ne _ _ (by omega)]; exact h3.pos), (by rw [upd_ne _ _ (by omega)]; exact h3.neg), (by rw [upd_ne _ _ (by omega)]; exact h3.del), (upd_at _ _ _), (by rw [upd_ne _ _ (by omega)]; exact h3.err), (by rw [upd_ne _ _ (by omega)]; exact h3.at_)⟩
theorem PaB.st_err {m : Mem} {b : Nat} {c : PaC} {x : Int} {K : Mem → Prop} (ok : m.Ok) (h : PaB m b c) (hK : ∀ m', m'.Ok → Kp [b] m m' → PaB m' b { c with err := x } → K m') : st m b 9 (.int .i64 (x)) K := by
  obtain ⟨f, h1, h2, h3⟩ := h
  refine ⟨f, h1, h2, by rw [h3.err]; rfl, hK _ (ok.setB h1) (Kp.setB h1 h2 _ (by simp)) ⟨_, Mem.setB_at _ _ _, h2, ?_⟩⟩
  exact ⟨(by rw [upd_ne _ _ (by omega)]; exact h3.arena), (by rw [upd_ne _ _ (by omega)]; exact h3.state), (by rw [upd_ne _ _ (by omega)]; exact h3.start), (by rw [upd_ne _ _ (by omega)]; exact h3.minus), (by rw [upd_ne _ _ (by omega)]; exact h3.val), (by rw [upd_ne _ _ (by omega)]; exact h3.pos), (by rw [upd_ne _ _ (by omega)]; exact h3.neg), (by rw [upd_ne _ _ (by omega)]; exact h3.del), (by rw [upd_ne _ _ (by omega)]; exact h3.open_), (upd_at _ _ _), (by rw [upd_ne _ _ (by omega)]; exact h3.at_)⟩
theorem PaB.st_at_ {m : Mem} {b : Nat} {c : PaC} {x : Int} {K : Mem → Prop} (ok : m.Ok) (h : PaB m b c) (hK : ∀ m', m'.Ok → Kp [b] m m' → PaB m' b { c with at_ := x } → K m') : st m b 10 (.int .i64 (x)) K := by
  obtain ⟨f, h1, h2, h3⟩ := h
  refine ⟨f, h1, h2, by rw [h3.at_]; rfl, hK _ (ok.setB h1) (Kp.setB h1 h2 _ (by simp)) ⟨_, Mem.setB_at _ _ _, h2, ?_⟩⟩
  exact ⟨(by rw [upd_ne _ _ (by omega)]; exact h3.arena), (by rw [upd_ne _ _ (by omega)]; exact h3.state), (by rw [upd_ne _ _ (by omega)]; exact h3.start), (by rw [upd_ne _ _ (by omega)]; exact h3.minus), (by rw [upd_ne _ _ (by omega)]; exact h3.val), (by rw [upd_ne _ _ (by omega)]; exact h3.pos), (by rw [upd_ne _ _ (by omega)]; exact h3.neg), (by rw [upd_ne _ _ (by omega)]; exact h3.del), (by rw [upd_ne _ _ (by omega)]; exact h3.open_), (by rw [upd_ne _ _ (by omega)]; exact h3.err), (upd_at _ _ _)⟩
structure ChC where
  p : Nat
  pos : Nat → Int
  neg : Nat → Int
  used : Int
  empties : Int
structure ChF (f : Blk) (c : ChC) : Prop where
  p : f.cell 0 = some (ptr (c.p) 0)
  pos : ∀ i, i < 64 → f.cell (1 + i) = some (.int .u16 (c.pos i))
  neg : ∀ i, i < 64 → f.cell (65 + i) = some (.int .u16 (c.neg i))
  used : f.cell 129 = some (.int .u64 (c.used))
  empties : f.cell 130 = some (.int .i64 (c.empties))
def ChB (m : Mem) (b : Nat) (c : ChC) : Prop := ∃ f, m.blk b = some f ∧ f.wr = true ∧ ChF f c
theorem ChB.keep {S : List Nat} {m m' : Mem} {b : Nat} {c : ChC} (h : ChB m b c) (hk : Kp S m m') (hb : b ∉ S) : ChB m' b c := by
  obtain ⟨f, h1, h2⟩ := h
  exact ⟨f, hk.keep b f hb h1, h2⟩
theorem ChB.lt {m : Mem} {b : Nat} {c : ChC} (ok : m.Ok) (h : ChB m b c) : b < m.top := by
  obtain ⟨f, h1, h2⟩ := h
  exact ok b f h1
theorem ChB.p {m : Mem} {b : Nat} {c : ChC} (h : ChB m b c) : m.cell b 0 = some (ptr (c.p) 0) := by
  obtain ⟨f, h1, h2, h3⟩ := h
  exact Mem.cell_of h1 h3.p
theorem ChB.pos {m : Mem} {b : Nat} {c : ChC} (h : ChB m b c) {j : Nat} (hj : j < 64) : m.cell b (1 + j) = some (.int .u16 (c.pos j)) := by
  obtain ⟨f, h1, h2, h3⟩ := h
  exact Mem.cell_of h1 (h3.pos j hj)
theorem ChB.neg {m : Mem} {b : Nat} {c : ChC} (h : ChB m b c) {j : Nat} (hj : j < 64) : m.cell b (65 + j) = some (.int .u16 (c.neg j)) := by
  obtain ⟨f, h1, h2, h3⟩ := h
  exact Mem.cell_of h1 (h3.neg j hj)
theorem ChB.used {m : Mem} {b : Nat} {c : ChC} (h : ChB m b c) : m.cell b 129 = some (.int .u64 (c.used)) := by
  obtain ⟨f, h1, h2, h3⟩ := h
  exact Mem.cell_of h1 h3.used
theorem ChB.empties {m : Mem} {b : Nat} {c : ChC} (h : ChB m b c) : m.cell b 130 = some (.int .i64 (c.empties)) := by
  obtain ⟨f, h1, h2, h3⟩ := h
  exact Mem.cell_of h1 h3.empties
theorem ChB.st_pos {m : Mem} {b : Nat} {c : ChC} {j : Nat} {x : Int} {K : Mem → Prop} (ok : m.Ok) (h : ChB m b c) (hj : j < 64) (hK : ∀ m', m'.Ok → Kp [b] m m' → ChB m' b { c with pos := fupd c.pos j x } → K m') : st m b (1 + j) (.int .u16 (x)) K := by
  obtain ⟨f, h1, h2, h3⟩ := h
  refine ⟨f, h1, h2, by rw [h3.pos j hj]; rfl, hK _ (ok.setB h1) (Kp.setB h1 h2 _ (by simp)) ⟨_, Mem.setB_at _ _ _, h2, ?_⟩⟩
  exact ⟨(by rw [upd_ne _ _ (by omega)]; exact h3.p), (fun i hi => upd_arr (h3.pos i hi)), (fun i hi => by rw [upd_ne _ _ (by omega)]; exact h3.neg i hi), (by rw [upd_ne _ _ (by omega)]; exact h3.used), (by rw [upd_ne _ _ (by omega)]; exact h3.empties)⟩
theorem ChB.st_neg {m : Mem} {b : Nat} {c : ChC} {j : Nat} {x : Int} {K : Mem → Prop} (ok : m.Ok) (h : ChB m b c) (hj : j < 64) (hK : ∀ m', m'.Ok → Kp [b] m m' → ChB m' b { c with neg := fupd c.neg j x } → K m') : st m b (65 + j) (.int .u16 (x)) K := by
  obtain ⟨f, h1, h2, h3⟩ := h
  refine ⟨f, h1, h2, by rw [h3.neg j hj]; rfl, hK _ (ok.setB h1) (Kp.setB h1 h2 _ (by simp)) ⟨_, Mem.setB_at _ _ _, h2, ?_⟩⟩
  exact ⟨(by rw [upd_ne _ _ (by omega)]; exact h3.p), (fun i hi => by rw [upd_ne _ _ (by omega)]; exact h3.pos i hi), (fun i hi => upd_arr (h3.neg i hi)), (by rw [upd_ne _ _ (by omega)]; exact h3.used), (by rw [upd_ne _ _ (by omega)]; exact h3.empties)⟩
theorem ChB.st_used {m : Mem} {b : Nat} {c : ChC} {x : Int} {K : Mem → Prop} (ok : m.Ok) (h : ChB m b c) (hK : ∀ m', m'.Ok → Kp [b] m m' → ChB m' b { c with used := x } → K m') : st m b 129 (.int .u64 (x)) K := by
  obtain ⟨f, h1, h2, h3⟩ := h
  refine ⟨f, h1, h2, by rw [h3.used]; rfl, hK _ (ok.setB h1) (Kp.setB h1 h2 _ (by simp)) ⟨_, Mem.setB_at _ _ _, h2, ?_⟩⟩
  exact ⟨(by rw [upd_ne _ _ (by omega)]; exact h3.p), (fun i hi => by rw [upd_ne _ _ (by omega)]; exact h3.pos i hi), (fun i hi => by rw [upd_ne _ _ (by omega)]; exact h3.neg i hi), (upd_at _ _ _), (by rw [upd_ne _ _ (by omega)]; exact h3.empties)⟩
theorem ChB.st_empties {m : Mem} {b : Nat} {c : ChC} {x : Int} {K : Mem → Prop} (ok : m.Ok) (h : ChB m b c) (hK : ∀ m', m'.Ok → Kp [b] m m' → ChB m' b { c with empties := x } → K m') : st m b 130 (.int .i64 (x)) K := by
  obtain ⟨f, h1, h2, h3⟩ := h
  refine ⟨f, h1, h2, by rw [h3.empties]; rfl, hK _ (ok.setB h1) (Kp.setB h1 h2 _ (by simp)) ⟨_, Mem.setB_at _ _ _, h2, ?_⟩⟩
  exact ⟨(by rw [upd_ne _ _ (by omega)]; exact h3.p), (fun i hi => by rw [upd_ne _ _ (by omega)]; exact h3.pos i hi), (fun i hi => by rw [upd_ne _ _ (by omega)]; exact h3.neg i hi), (by rw [upd_ne _ _ (by omega)]; exact h3.used), (upd_at _ _ _)⟩
end Go.Proofs.Qxb6500974aGreat
