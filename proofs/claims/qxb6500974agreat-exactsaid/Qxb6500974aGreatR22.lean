import Derived.Test.Qxb6500974aGreatR21
import Derived.Test.Qxb6500974aGreatP13
set_option linter.all false
set_option linter.unusedSimpArgs false
set_option linter.unusedVariables false
namespace Go.Proofs.Qxb6500974aGreat
open Go.Eng
variable {W0 : World}

theorem z109 : (zeroCells Tryz.prog 109).getD [] = List.replicate 15 (.int .i64 0) ++ (List.replicate 13 (.int .i8 0) ++ (List.replicate 53 (.int .i64 0) ++ [])) := by kernel_rfl
theorem z114 : List.drop 1 ((zeroCells Tryz.prog 114).getD []) = List.replicate 676 (.int .i64 0) ++ (List.replicate 29 (.int .u64 0) ++ [.int .i64 0]) := by kernel_rfl
theorem z88 : List.drop 1 ((zeroCells Tryz.prog 88).getD []) = List.replicate 128 (.int .u16 0) ++ [.int .u64 0, .int .i64 0] := by kernel_rfl
theorem rl {α : Type} {n i : Nat} (a : α) (r : List α) (h : i < n) : (List.replicate n a ++ r)[i]? = some a := by
  rw [List.getElem?_append_left (by rw [List.length_replicate]; exact h), List.getElem?_replicate, if_pos h]
theorem rr {α : Type} {n i : Nat} (a : α) (r : List α) : (List.replicate n a ++ r)[n + i]? = r[i]? := by
  rw [List.getElem?_append_right (by rw [List.length_replicate]; omega), List.length_replicate, Nat.add_sub_cancel_left]
theorem r1 {α : Type} {i : Nat} (a : α) (r : List α) : ([a] ++ r)[1 + i]? = r[i]? := by
  rw [Nat.add_comm]; rfl

theorem newPa_spec {K : Value → Mem → Prop} {m : Mem} (hK : ∀ b m', m.top ≤ b → m'.Ok → Kp [] m m' → PaAt m' b none Pst.rest → K (ptr b 0) m') : callOK Tryz.prog W0 19 [] K m := by
  refine callOK_ok fun ok => call19 ?_
  unfold s19
  intro b hb
  refine hK b _ hb (ok.new hb _) (Kp.new ok hb _) ⟨⟨(none, 0, 0), 0, 0, false, 0, 0, 0, false, false, 0, 0⟩, ⟨_, Mem.new_at _ _ _, rfl, ⟨rfl, rfl, rfl, rfl, rfl, rfl, rfl, rfl, rfl, rfl, rfl⟩⟩, rfl, ⟨rfl, [], OwnV.nil _ _, trivial⟩, ⟨rfl, rfl, rfl, ⟨rfl, by simp [Pst.rest]⟩, ⟨u16_0, fun v _ => tb_zero v⟩, ⟨u16_0, fun v _ => tb_zero v⟩, rfl, rfl, rfl, rfl⟩, by simp [blkOf]⟩
theorem newTr_spec {K : Value → Mem → Prop} {m : Mem} (hK : ∀ b m', m.top ≤ b → m'.Ok → Kp [] m m' → TrAt m' b Tr.empty → K (ptr b 0) m') : callOK Tryz.prog W0 20 [] K m := by
  refine callOK_ok fun ok => call20 ?_
  unfold s20
  rw [z109]
  intro b hb
  have hk0 := Kp.new (S := []) ok hb (Blk.ofList (List.replicate 15 (.int .i64 0) ++ (List.replicate 13 (.int .i8 0) ++ (List.replicate 53 (.int .i64 0) ++ []))))
  have ok0 := ok.new hb (Blk.ofList (List.replicate 15 (.int .i64 0) ++ (List.replicate 13 (.int .i8 0) ++ (List.replicate 53 (.int .i64 0) ++ []))))
  have hb0 : TrB (m.new b (Blk.ofList (List.replicate 15 (.int .i64 0) ++ (List.replicate 13 (.int .i8 0) ++ (List.replicate 53 (.int .i64 0) ++ []))))) b ⟨fun _ => 0, 0, 0, 0, fun _ => 0, fun _ => 0, fun _ => 0, fun _ => 0, fun _ => 0, 0⟩ := by
    refine ⟨_, Mem.new_at _ _ _, rfl, ?_⟩
    have c1 : ∀ i, i < 15 → (Blk.ofList (List.replicate 15 (.int .i64 0) ++ (List.replicate 13 (.int .i8 0) ++ (List.replicate 53 (.int .i64 0) ++ [])))).cell i = some (.int .i64 0) := by
      intro i hi
      exact rl _ _ hi
    have c2 : ∀ i, i < 13 → (Blk.ofList (List.replicate 15 (.int .i64 0) ++ (List.replicate 13 (.int .i8 0) ++ (List.replicate 53 (.int .i64 0) ++ [])))).cell (15 + i) = some (.int .i8 0) := by
      intro i hi
      exact (rr _ _).trans (rl _ _ hi)
    have c3 : ∀ i, i < 53 → (Blk.ofList (List.replicate 15 (.int .i64 0) ++ (List.replicate 13 (.int .i8 0) ++ (List.replicate 53 (.int .i64 0) ++ [])))).cell (28 + i) = some (.int .i64 0) := by
      intro i hi
      have e : 28 + i = 15 + (13 + i) := by omega
      rw [e]
      exact (rr _ _).trans ((rr _ _).trans (rl _ _ hi))
    refine ⟨fun i hi => ?_, c1 12 (by omega), c1 13 (by omega), c1 14 (by omega), c2, fun i hi => c3 i (by omega), fun i hi => ?_, fun i hi => ?_, fun i hi => ?_, c3 52 (by omega)⟩
    · rw [Nat.zero_add]; exact c1 i (by omega)
    · have := c3 (13 + i) (by omega); rw [show 28 + (13 + i) = 41 + i by omega] at this; exact this
    · have := c3 (26 + i) (by omega); rw [show 28 + (26 + i) = 54 + i by omega] at this; exact this
    · have := c3 (39 + i) (by omega); rw [show 28 + (39 + i) = 67 + i by omega] at this; exact this
  generalize m.new b (Blk.ofList (List.replicate 15 (.int .i64 0) ++ (List.replicate 13 (.int .i8 0) ++ (List.replicate 53 (.int .i64 0) ++ [])))) = m0 at hk0 ok0 hb0
  refine loop20_1 (γ := Nat × TrC) (fun g v m' => v = g.1 ∧ g.1 ≤ 13 ∧ m'.Ok ∧ Kp [] m m' ∧ TrB m' b g.2 ∧ g.2.top = 0 ∧ g.2.cursor = 0 ∧ g.2.depth = 0 ∧ (∀ v, v < 13 → g.2.val v = 0) ∧ ∀ v, v < g.1 → g.2.level v = -1 ∧ g.2.reason v = -1 ∧ g.2.place v = -1) (fun g _ => 13 - g.1) (0, _)
    ⟨rfl, by dsimp only; omega, ok0, hk0, hb0, rfl, rfl, rfl, fun _ _ => rfl, by intro v hv; dsimp only at hv; omega⟩ ?_
  rintro ⟨k, c⟩ v m1 ⟨rfl, hk, ok1, kp1, b1, e1, e2, e3, e4, e5⟩
  dsimp only at hk b1 e1 e2 e3 e4 e5 ⊢
  unfold s20_1
  refine ifB_le (fun hle => ?_) (fun hle => ?_)
  · refine ⟨by omega, by omega, ?_⟩
    simp only [Int.toNat_natCast]
    refine b1.st_level ok1 (by omega) ?_
    intro m2 ok2 kp2 b2
    refine ⟨by omega, by omega, ?_⟩
    simp only [Int.toNat_natCast]
    refine b2.st_reason ok2 (by omega) ?_
    intro m3 ok3 kp3 b3
    refine ⟨by omega, by omega, ?_⟩
    simp only [Int.toNat_natCast]
    refine b3.st_place ok3 (by omega) ?_
    intro m4 ok4 kp4 b4
    refine ⟨(k + 1, _), _, rfl, ⟨wrapS k (by omega), by dsimp only; omega, ok4, kp1.step ((kp2.trans kp3).trans kp4) ok (fun b' hb' => .inr (by simp at hb'; omega)), b4, e1, e2, e3, e4, ?_⟩, by dsimp only; omega⟩
    intro v hv
    dsimp only at hv ⊢
    by_cases he : v = k
    · subst he; rw [fupd_at, fupd_at, fupd_at]; exact ⟨rfl, rfl, rfl⟩
    · rw [fupd_ne _ _ he, fupd_ne _ _ he, fupd_ne _ _ he]; exact e5 v (by omega)
  · rw [e20_1x0]
    have : k = 13 := by omega
    subst this
    refine hK b m1 hb ok1 kp1 ⟨Tr.empty_good, c, b1, e1, e2, e3, ?_, ?_, ?_, ?_, ?_, ?_⟩
    · intro i e he; simp [Tr.empty] at he
    · intro v hv; rw [e4 v hv]; rfl
    · intro v hv; rw [(e5 v hv).1]; rfl
    · intro v hv; rw [(e5 v hv).2.1]; rfl
    · intro v hv; rw [(e5 v hv).2.2]; rfl
    · intro k h1 h2; simp [Tr.empty] at h2; omega
theorem u64_0 : U64 0 := ⟨by omega, by omega⟩
theorem newWa_spec {t : Nat} {K : Value → Mem → Prop} {m : Mem} (hK : ∀ b m', m.top ≤ b → m'.Ok → Kp [] m m' → WAt m' b t emptyW → K (ptr b 0) m') : callOK Tryz.prog W0 21 [ptr t 0] K m := by
  refine callOK_ok fun ok => call21 ?_
  unfold s21
  rw [z114, List.take_zero, List.nil_append]
  intro b hb
  refine hK b _ hb (ok.new hb _) (Kp.new ok hb _) ⟨emptyW_good, ⟨t, fun _ => 0, fun _ => 0, 0, 0, 0, fun _ => 0, 0⟩, ⟨_, Mem.new_at _ _ _, rfl, ?_⟩, rfl, ?_⟩
  · have c1 : ∀ i, i < 676 → (Blk.ofList ([ptr t 0] ++ (List.replicate 676 (.int .i64 0) ++ (List.replicate 29 (.int .u64 0) ++ [.int .i64 0])))).cell (1 + i) = some (.int .i64 0) := by
      intro i hi
      exact (r1 _ _).trans (rl _ _ hi)
    have c2 : ∀ i, i < 29 → (Blk.ofList ([ptr t 0] ++ (List.replicate 676 (.int .i64 0) ++ (List.replicate 29 (.int .u64 0) ++ [.int .i64 0])))).cell (677 + i) = some (.int .u64 0) := by
      intro i hi
      have e : 677 + i = 1 + (676 + i) := by omega
      rw [e]
      exact (r1 _ _).trans ((rr _ _).trans (rl _ _ hi))
    refine ⟨rfl, fun i hi => c1 i (by omega), fun i hi => ?_, c2 0 (by omega), c2 1 (by omega), c2 2 (by omega), fun i hi => ?_, ?_⟩
    · have := c1 (624 + i) (by omega); rw [show 1 + (624 + i) = 625 + i by omega] at this; exact this
    · have := c2 (3 + i) (by omega); rw [show 677 + (3 + i) = 680 + i by omega] at this; exact this
    · have e : 706 = 1 + (676 + (29 + 0)) := rfl
      show (Blk.ofList _).cell 706 = _
      rw [e]
      exact (r1 _ _).trans ((rr _ _).trans (rr _ _))
  · refine ⟨⟨u64_0, fun i _ => by rw [tb_zero]; simp [emptyW]⟩, ⟨u64_0, fun i _ => by rw [tb_zero]; simp [emptyW]⟩, ⟨u64_0, fun i _ => by rw [tb_zero]; simp [emptyW]⟩, fun id _ => by simp [emptyW], fun id _ i x h => by simp [emptyW] at h, fun k _ => ⟨u64_0, fun i _ => by rw [tb_zero]; simp [emptyW, watches]⟩⟩
theorem newLe_spec {t w : Nat} {K : Value → Mem → Prop} {m : Mem} (hK : ∀ b m', m.top ≤ b → m'.Ok → Kp [] m m' → LnAt m' b t w Ln.clean → K (ptr b 0) m') : callOK Tryz.prog W0 22 [ptr t 0, ptr w 0] K m := by
  refine callOK_ok fun ok => call22 ?_
  unfold s22
  intro b hb
  exact hK b _ hb (ok.new hb _) (Kp.new ok hb _) ⟨⟨t, w, 0, 0, 0, 0, 0⟩, ⟨_, Mem.new_at _ _ _, rfl, ⟨rfl, rfl, rfl, rfl, rfl, rfl, rfl⟩⟩, rfl, rfl, ⟨⟨u16_0, fun v _ => tb_zero v⟩, ⟨u16_0, fun v _ _ => tb_zero v⟩, ⟨u16_0, fun v _ _ => tb_zero v⟩, rfl, rfl⟩⟩
theorem newCh_spec {p : Nat} {K : Value → Mem → Prop} {m : Mem} (hK : ∀ b m', m.top ≤ b → m'.Ok → Kp [] m m' → ChAt m' b p emptyS → K (ptr b 0) m') : callOK Tryz.prog W0 24 [ptr p 0] K m := by
  refine callOK_ok fun ok => call24 ?_
  unfold s24
  rw [z88, List.take_zero, List.nil_append]
  intro b hb
  refine hK b _ hb (ok.new hb _) (Kp.new ok hb _) ⟨⟨p, fun _ => 0, fun _ => 0, 0, 0⟩, ⟨_, Mem.new_at _ _ _, rfl, ?_⟩, rfl, ?_⟩
  · have c1 : ∀ i, i < 128 → (Blk.ofList ([ptr p 0] ++ (List.replicate 128 (.int .u16 0) ++ [.int .u64 0, .int .i64 0]))).cell (1 + i) = some (.int .u16 0) := by
      intro i hi
      exact (r1 _ _).trans (rl _ _ hi)
    refine ⟨rfl, fun i hi => c1 i (by omega), fun i hi => ?_, ?_, ?_⟩
    · have := c1 (64 + i) (by omega); rw [show 1 + (64 + i) = 65 + i by omega] at this; exact this
    · have e : 129 = 1 + (128 + 0) := rfl
      show (Blk.ofList _).cell 129 = _
      rw [e]
      exact (r1 _ _).trans (rr _ _)
    · have e : 130 = 1 + (128 + 1) := rfl
      show (Blk.ofList _).cell 130 = _
      rw [e]
      exact (r1 _ _).trans (rr _ _)
  · refine ⟨⟨u64_0, fun s _ => by rw [tb_zero]; rfl⟩, fun s _ => RowBits.nil, fun s l h => by simp [emptyS] at h, ?_⟩
    have : ∀ n, cntB (fun s => decide (emptyS s = some [])) n = 0 := by
      intro n
      induction n with
      | zero => rfl
      | succ n ih => simp only [cntB, ih]; simp [emptyS]
    rw [this]; rfl

def St.new : St := { t := Tr.empty, w := emptyW, log := [], act := fun _ => 0, phase := fun _ => -1, inc := 1, alive := fun _ => false, count := 0, conf := 0, rest := 0, since := 0 }
theorem St.new_fin : FinOK St.new := by
  refine ⟨rfl, by simp [St.new], rfl, rfl, fun v _ => by simp [St.new], fun v _ => .inr rfl, fun k _ => by simp [St.new, emptyW], fun k _ _ => rfl, rfl, by simp [St.new], by simp [St.new], by simp [St.new], fun _ => ?_⟩
  show ((0 : Nat) : Int) < goInterval ((0 : Nat) : Int)
  have e : goInterval ((0 : Nat) : Int) = 1 := rfl
  rw [e]; decide
theorem newSo_spec {p t w l : Nat} {K : Value → Mem → Prop} {m : Mem} (hK : ∀ b m' c, m.top ≤ b → m'.Ok → Kp [] m m' → SoB m' b c → c.p = p → c.t = t → c.w = w → c.l = l → c.log = (none, 0, 0) → SvRep c St.new → K (ptr b 0) m') : callOK Tryz.prog W0 23 [ptr p 0, ptr t 0, ptr w 0, ptr l 0] K m := by
  refine callOK_ok fun ok => call23 ?_
  unfold s23
  intro b hb
  obtain ⟨L, hL⟩ : ∃ L : List Value, [(ptr p 0), (ptr t 0), (ptr w 0), (ptr l 0), (.slice none 0 0), (.int .i64 0), (.int .i64 0), (.int .i64 0), (.int .i64 0), (.int .i64 0), (.int .i64 0), (.int .i64 0), (.int .i64 0), (.int .i64 0), (.int .i64 0), (.int .i64 0), (.int .i64 0), (.int .i64 0), (.int .i64 0), (.int .i64 0), (.int .i64 0), (.int .i64 0), (.int .i64 0), (.int .i64 0), (.int .i64 0), (.int .i64 0), (.int .i64 0), (.int .i64 0), (.int .i64 0), (.int .i64 0), (.int .i64 0), (.int .i64 1), (.int .u16 0), (.int .i64 0), (.int .i64 0), (.int .i64 0), (.int .i64 0)] = L := ⟨_, rfl⟩
  rw [hL]
  have hk0 := Kp.new (S := []) ok hb (Blk.ofList L)
  have ok0 := ok.new hb (Blk.ofList L)
  have hb0 : SoB (m.new b (Blk.ofList L)) b ⟨p, t, w, l, (none, 0, 0), fun _ => 0, fun _ => 0, 1, 0, 0, 0, 0, 0⟩ := by
    refine ⟨_, Mem.new_at _ _ _, rfl, ?_⟩
    rw [← hL]
    have c1 : ∀ i, i < 26 → (Blk.ofList [(ptr p 0), (ptr t 0), (ptr w 0), (ptr l 0), (.slice none 0 0), (.int .i64 0), (.int .i64 0), (.int .i64 0), (.int .i64 0), (.int .i64 0), (.int .i64 0), (.int .i64 0), (.int .i64 0), (.int .i64 0), (.int .i64 0), (.int .i64 0), (.int .i64 0), (.int .i64 0), (.int .i64 0), (.int .i64 0), (.int .i64 0), (.int .i64 0), (.int .i64 0), (.int .i64 0), (.int .i64 0), (.int .i64 0), (.int .i64 0), (.int .i64 0), (.int .i64 0), (.int .i64 0), (.int .i64 0), (.int .i64 1), (.int .u16 0), (.int .i64 0), (.int .i64 0), (.int .i64 0), (.int .i64 0)]).cell (5 + i) = some (.int .i64 0) := by
      intro i hi
      have : i = 0 ∨ i = 1 ∨ i = 2 ∨ i = 3 ∨ i = 4 ∨ i = 5 ∨ i = 6 ∨ i = 7 ∨ i = 8 ∨ i = 9 ∨ i = 10 ∨ i = 11 ∨ i = 12 ∨ i = 13 ∨ i = 14 ∨ i = 15 ∨ i = 16 ∨ i = 17 ∨ i = 18 ∨ i = 19 ∨ i = 20 ∨ i = 21 ∨ i = 22 ∨ i = 23 ∨ i = 24 ∨ i = 25 := by omega
      rcases this with rfl | rfl | rfl | rfl | rfl | rfl | rfl | rfl | rfl | rfl | rfl | rfl | rfl | rfl | rfl | rfl | rfl | rfl | rfl | rfl | rfl | rfl | rfl | rfl | rfl | rfl <;> rfl
    refine ⟨rfl, rfl, rfl, rfl, rfl, fun i hi => c1 i (by omega), fun i hi => ?_, rfl, rfl, rfl, rfl, rfl, rfl⟩
    have := c1 (13 + i) (by omega)
    rw [show 5 + (13 + i) = 18 + i by omega] at this
    exact this
  generalize m.new b (Blk.ofList L) = m0 at hk0 ok0 hb0
  refine loop23_1 (γ := Nat × SoC) (fun g v m' => v = g.1 ∧ g.1 ≤ 13 ∧ m'.Ok ∧ Kp [] m m' ∧ SoB m' b g.2 ∧ g.2.p = p ∧ g.2.t = t ∧ g.2.w = w ∧ g.2.l = l ∧ g.2.log = (none, 0, 0) ∧ (∀ v, g.2.act v = 0) ∧ g.2.inc = 1 ∧ g.2.alive = 0 ∧ g.2.count = 0 ∧ g.2.conflicts = 0 ∧ g.2.restarts = 0 ∧ g.2.since = 0 ∧ ∀ v, v < g.1 → g.2.phase v = -1) (fun g _ => 13 - g.1) (0, _)
    ⟨rfl, by dsimp only; omega, ok0, hk0, hb0, rfl, rfl, rfl, rfl, rfl, fun _ => rfl, rfl, rfl, rfl, rfl, rfl, rfl, by intro v hv; dsimp only at hv; omega⟩ ?_
  rintro ⟨k, c⟩ v m1 ⟨rfl, hk, ok1, kp1, b1, e1, e2, e3, e4, e5, e6, e7, e8, e9, e10, e11, e12, e13⟩
  dsimp only at hk b1 e1 e2 e3 e4 e5 e6 e7 e8 e9 e10 e11 e12 e13 ⊢
  unfold s23_1
  refine ifB_le (fun hle => ?_) (fun hle => ?_)
  · refine ⟨by omega, by omega, ?_⟩
    simp only [Int.toNat_natCast]
    refine b1.st_phase ok1 (by omega) ?_
    intro m2 ok2 kp2 b2
    refine ⟨(k + 1, _), _, rfl, ⟨wrapS k (by omega), by dsimp only; omega, ok2, kp1.step kp2 ok (fun b' hb' => .inr (by simp at hb'; omega)), b2, e1, e2, e3, e4, e5, e6, e7, e8, e9, e10, e11, e12, ?_⟩, by dsimp only; omega⟩
    intro v hv
    dsimp only at hv ⊢
    by_cases he : v = k
    · subst he; exact fupd_at _ _ _
    · rw [fupd_ne _ _ he]; exact e13 v (by omega)
  · rw [e23_1x0]
    have : k = 13 := by omega
    subst this
    exact hK b m1 c hb ok1 kp1 b1 e1 e2 e3 e4 e5 ⟨fun v _ => e6 v, fun v hv => e13 v hv, e7, ⟨by rw [e8]; exact u16_0, fun i _ => by rw [e8, tb_zero]; rfl⟩, e9, e10, e11, e12⟩

structure Tw where
  x : Nat
  B : Bk
  q : Nat
  k : Nat
  la : Option Addr
  aa : Option Addr
  qa : Option Addr
  σ : St
  S : Slots
def Tw.foot (T : Tw) : List Nat := footS T.B T.la T.aa ++ footC T.k T.q T.qa

def TwB (m : Mem) (x : Nat) (B : Bk) (q k : Nat) : Prop := ∃ f, m.blk x = some f ∧ f.wr = false ∧ f.cell 0 = some (ptr B.p 0) ∧ f.cell 1 = some (ptr B.t 0) ∧ f.cell 2 = some (ptr B.w 0) ∧ f.cell 3 = some (ptr B.l 0) ∧ f.cell 4 = some (ptr B.s 0) ∧ f.cell 5 = some (ptr q 0) ∧ f.cell 6 = some (ptr k 0)
theorem TwB.keep {X : List Nat} {m m' : Mem} {x : Nat} {B : Bk} {q k : Nat} (h : TwB m x B q k) (hk : Kp X m m') : TwB m' x B q k := by
  obtain ⟨f, h1, h2, h3⟩ := h
  exact ⟨f, hk.fz x f h1 h2, h2, h3⟩
structure TwAt (m : Mem) (T : Tw) : Prop where
  bk : TwB m T.x T.B T.q T.k
  d : T.B.Dist
  sol : SolAt m T.B T.la T.aa T.σ
  ck : CkAt m T.k T.q T.qa T.S
  dis : ∀ x ∈ footS T.B T.la T.aa, x ∉ footC T.k T.q T.qa
  fin : FinOK T.σ
theorem TwAt.keep {X : List Nat} {m m' : Mem} {T : Tw} (h : TwAt m T) (hk : Kp X m m') (hs : ∀ x ∈ T.foot, x ∉ X) : TwAt m' T :=
  ⟨h.bk.keep hk, h.d, h.sol.keep hk fun x hx => hs x (by simp [Tw.foot, hx]), h.ck.keep hk fun x hx => hs x (by simp [Tw.foot, hx]), h.dis, h.fin⟩
theorem TwAt.lt {m : Mem} {T : Tw} (ok : m.Ok) (h : TwAt m T) : ∀ x ∈ T.foot, x < m.top := by
  intro x hx
  simp only [Tw.foot, List.mem_append] at hx
  rcases hx with hx | hx
  · exact h.sol.lt ok x hx
  · exact h.ck.lt ok x hx
def Tw.fresh (T : Tw) : Prop := T.σ = St.new ∧ T.S = emptyS
theorem newTw_spec {K : Value → Mem → Prop} {m : Mem} (hK : ∀ T m', m'.Ok → Kp [] m m' → InS [] m T.foot → TwAt m' T → K (ptr T.x 0) m') : callOK Tryz.prog W0 9 [] K m := by
  refine callOK_ice fun ok => call9 ?_
  unfold s9
  refine newPa_spec ?_
  intro p m1 hp ok1 kp1 hpa1
  refine ⟨_, rfl, ?_⟩
  have plt := hpa1.lt ok1 p (by simp)
  refine newTr_spec ?_
  intro t m2 ht ok2 kp2 htr2
  refine ⟨_, rfl, ?_⟩
  have tlt := htr2.lt ok2
  refine newWa_spec ?_
  intro w m3 hw ok3 kp3 hwa3
  refine ⟨_, rfl, ?_⟩
  have wlt := hwa3.lt ok3
  refine newLe_spec ?_
  intro l m4 hl ok4 kp4 hln4
  refine ⟨_, rfl, ?_⟩
  have llt := hln4.lt ok4
  refine newSo_spec ?_
  intro s m5 c hs ok5 kp5 so5 e1 e2 e3 e4 e5 rep5
  refine ⟨_, rfl, ?_⟩
  have slt := so5.lt ok5
  refine newPa_spec ?_
  intro q m6 hq ok6 kp6 hqa6
  refine ⟨_, rfl, ?_⟩
  have qlt := hqa6.lt ok6 q (by simp)
  refine newCh_spec ?_
  intro k m7 hk ok7 kp7 hck7
  refine ⟨_, rfl, ?_⟩
  have klt := hck7.lt ok7
  have t1 := kp1.top
  have t2 := kp2.top
  have t3 := kp3.top
  have t4 := kp4.top
  have t5 := kp5.top
  have t6 := kp6.top
  have t7 := kp7.top
  intro x hx okx
  have hk8 := Kp.new (S := []) ok7 hx (Blk.ofList [(ptr p 0), (ptr t 0), (ptr w 0), (ptr l 0), (ptr s 0), (ptr q 0), (ptr k 0)])
  have ok8 := ok7.new hx (Blk.ofList [(ptr p 0), (ptr t 0), (ptr w 0), (ptr l 0), (ptr s 0), (ptr q 0), (ptr k 0)])
  have hb8 : (m7.new x (Blk.ofList [(ptr p 0), (ptr t 0), (ptr w 0), (ptr l 0), (ptr s 0), (ptr q 0), (ptr k 0)])).blk x = some (Blk.ofList [(ptr p 0), (ptr t 0), (ptr w 0), (ptr l 0), (ptr s 0), (ptr q 0), (ptr k 0)]) := Mem.new_at _ _ _
  generalize m7.new x (Blk.ofList [(ptr p 0), (ptr t 0), (ptr w 0), (ptr l 0), (ptr s 0), (ptr q 0), (ptr k 0)]) = m8 at hk8 ok8 hb8
  have kk7 : Kp [] m m7 := ((((((kp1.trans kp2).trans kp3).trans kp4).trans kp5).trans kp6).trans kp7)
  have kk8 := kk7.trans hk8
  have ki : Kp [x] m8 (m8.ice x) := Kp.ice1 x
  refine ⟨m8.ice x, Mem.ice_le ok8 x, rfl, fun ok9 => ?_⟩
  have kk9 : Kp [] m (m8.ice x) := kk8.step ki ok (fun b' hb' => .inr (by simp at hb'; omega))
  have nil : ∀ (y : Nat), y ∉ ([] : List Nat) := fun y => by simp
  let T : Tw := ⟨x, ⟨p, t, w, l, s⟩, q, k, none, none, none, St.new, emptyS⟩
  have sat5 : Sat m5 ⟨p, t, w, l, s⟩ none St.new := by
    refine ⟨((htr2.keep kp3 (nil _)).keep kp4 (nil _)).keep kp5 (nil _), (hwa3.keep kp4 (nil _)).keep kp5 (nil _), hln4.keep kp5 (nil _), ⟨c, so5, e1, e2, e3, e4, by rw [e5], by rw [e5]; exact ⟨rfl, [], OwnV.nil _ _, trivial⟩, rep5⟩, by simp [blkOf]⟩
  have pa5 := (((hpa1.keep kp2 (fun _ _ => nil _)).keep kp3 (fun _ _ => nil _)).keep kp4 (fun _ _ => nil _)).keep kp5 (fun _ _ => nil _)
  have sol5 : SolAt m5 ⟨p, t, w, l, s⟩ none none St.new := ⟨sat5, ⟨_, pa5⟩, by intro y hy; simp [blkOf] at hy; subst hy; simp [foot, blkOf]; omega⟩
  have sol8 := ((sol5.keep kp6 (fun _ _ => nil _)).keep kp7 (fun _ _ => nil _)).keep hk8 (fun _ _ => nil _)
  have ck7 : CkAt m7 k q none emptyS := ⟨hck7, ⟨_, hqa6.keep kp7 (fun _ _ => nil _)⟩, by simp [blkOf]; omega⟩
  have ck8 := ck7.keep hk8 (fun _ _ => nil _)
  refine hK T (m8.ice x) ok9 kk9 ?_ ⟨?_, ⟨by show p ≠ t; omega, by show p ≠ w; omega, by show p ≠ l; omega, by show p ≠ s; omega, by show t ≠ w; omega, by show t ≠ l; omega, by show t ≠ s; omega, by show w ≠ l; omega, by show w ≠ s; omega, by show l ≠ s; omega⟩, sol8.keep ki ?_, ck8.keep ki ?_, ?_, St.new_fin⟩
  · intro y hy
    simp only [T, Tw.foot, footS, footC, foot, blkOf, List.mem_append, List.mem_cons, List.not_mem_nil, or_false] at hy
    right
    rcases hy with ((h | h | h | h) | h) | h | h <;> omega
  · refine ⟨{ wr := false, cell := (Blk.ofList [(ptr p 0), (ptr t 0), (ptr w 0), (ptr l 0), (ptr s 0), (ptr q 0), (ptr k 0)]).cell }, ?_, rfl, rfl, rfl, rfl, rfl, rfl, rfl, rfl⟩
    show (m8.ice x).blk x = _
    simp [Mem.ice, hb8]
  · intro y hy h0
    have := sol8.lt ok8 y hy
    simp only [List.mem_singleton] at h0
    have h9 := sol5.lt ok5 y hy
    omega
  · intro y hy h0
    simp only [List.mem_singleton] at h0
    have h9 := ck7.lt ok7 y hy
    omega
  · intro y hy
    simp only [T, footS, footC, foot, blkOf, List.mem_append, List.mem_cons, List.not_mem_nil, or_false] at hy ⊢
    omega
end Go.Proofs.Qxb6500974aGreat
