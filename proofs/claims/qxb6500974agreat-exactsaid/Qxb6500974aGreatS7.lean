import Derived.Test.Qxb6500974aGreatPure
set_option linter.all false
set_option linter.unusedVariables false
set_option maxRecDepth 100000
namespace Go.Proofs.Qxb6500974aGreat
open Go.Eng

def s139 (C : CallT) (a0 : Nat) (l1 : Int) (K : Value → Mem → Prop) (m : Mem) : Prop :=
  ldInt .u16 m a0 2 fun x_1 =>
  ifB ((bAnd .u16 x_1 (goBit16 (goVar l1))) != 0)
  (K (.bool true) m)
  (ldPtr m a0 0 fun p_2 =>
  C 112 [(.pointer p_2), (.int .i64 (goVar l1))] (fun rm_4 m_4 =>
  ∃ x_3, rm_4 = (.int .i64 x_3) ∧
  ifB (decide (x_3 < 0))
  (K (.bool false) m_4)
  (ldInt .u16 m_4 a0 2 fun x_5 =>
  st m_4 a0 2 (.int .u16 (bOr .u16 x_5 (goBit16 (goVar l1)))) fun m_6 =>
  ldInt .i64 m_6 a0 6 fun x_7 =>
  ifB (x_3 == x_7)
  (ldInt .i64 m_6 a0 5 fun x_8 =>
  st m_6 a0 5 (.int .i64 (IntKind.wrap .i64 (x_8 + 1))) fun m_9 =>
  K (.bool true) m_9)
  (ifB (decide (x_3 > 0))
  (C 109 [(ptr a0 0), (.int .i64 l1)] (fun rm_10 m_10 =>
  rm_10 = (.tuple #[]) ∧
  K (.bool true) m_10) m_6)
  (K (.bool true) m_6)))) m)
theorem e139 (C : CallT) (a0 : Nat) (l1 : Int) (K : Value → Mem → Prop) (m : Mem) : evFn Tryz.prog pureF pureT C [] 139 [(ptr a0 0), (.int .i64 l1)] K m = s139 C a0 l1 K m := by kernel_rfl
theorem call139 {W0 : World} {a0 : Nat} {l1 : Int} {K : Value → Mem → Prop} {m : Mem} (h : s139 (callOK Tryz.prog W0) a0 l1 K m) : callOK Tryz.prog W0 139 [(ptr a0 0), (.int .i64 l1)] K m :=
  evFn_sound pureOk mixedP (fun w => Tryz.call139 _ w) ((e139 (callOK Tryz.prog W0) a0 l1 K m).symm ▸ h)

def s141 (C : CallT) (t0 : Nat) (v1 : Int) (K : Value → Mem → Prop) (m : Mem) : Prop :=
  ifB (!(goIsVar v1))
  (K (.int .i64 (-1)) m)
  (ckI v1 13 fun j_1 =>
  ldInt .i64 m t0 (41 + j_1) fun x_2 =>
  K (.int .i64 x_2) m)
theorem e141 (C : CallT) (t0 : Nat) (v1 : Int) (K : Value → Mem → Prop) (m : Mem) : evFn Tryz.prog pureF pureT C [] 141 [(ptr t0 0), (.int .i64 v1)] K m = s141 C t0 v1 K m := by kernel_rfl
theorem call141 {W0 : World} {t0 : Nat} {v1 : Int} {K : Value → Mem → Prop} {m : Mem} (h : s141 (callOK Tryz.prog W0) t0 v1 K m) : callOK Tryz.prog W0 141 [(ptr t0 0), (.int .i64 v1)] K m :=
  evFn_sound pureOk mixedP (fun w => Tryz.call141 _ w) ((e141 (callOK Tryz.prog W0) t0 v1 K m).symm ▸ h)

def s142 (C : CallT) (a0 : Nat) (v1 : Int) (K : Value → Mem → Prop) (m : Mem) : Prop :=
  ldInt .u16 m a0 4 fun x_1 =>
  ifB ((bAnd .u16 x_1 (goBit16 v1)) != 0)
  (K (.int .i64 (IntKind.wrap .i64 (0 - v1))) m)
  (ldInt .u16 m a0 3 fun x_2 =>
  ifB ((bAnd .u16 x_2 (goBit16 v1)) != 0)
  (K (.int .i64 v1) m)
  (K (.int .i64 0) m))
theorem e142 (C : CallT) (a0 : Nat) (v1 : Int) (K : Value → Mem → Prop) (m : Mem) : evFn Tryz.prog pureF pureT C [] 142 [(ptr a0 0), (.int .i64 v1)] K m = s142 C a0 v1 K m := by kernel_rfl
theorem call142 {W0 : World} {a0 : Nat} {v1 : Int} {K : Value → Mem → Prop} {m : Mem} (h : s142 (callOK Tryz.prog W0) a0 v1 K m) : callOK Tryz.prog W0 142 [(ptr a0 0), (.int .i64 v1)] K m :=
  evFn_sound pureOk mixedP (fun w => Tryz.call142 _ w) ((e142 (callOK Tryz.prog W0) a0 v1 K m).symm ▸ h)

def s143 (C : CallT) (a0 : Nat) (q1 : Int) (K : Value → Mem → Prop) (m : Mem) : Prop :=
  ldPtr m a0 0 fun p_1 =>
  C 141 [(.pointer p_1), (.int .i64 (goVar q1))] (fun rm_3 m_3 =>
  ∃ x_2, rm_3 = (.int .i64 x_2) ∧
  ldPtr m_3 a0 1 fun p_4 =>
  C 46 [(.pointer p_4), (.int .i64 x_2)] (fun rm_7 m_7 =>
  ∃ x_5a x_5l x_5c x_6, rm_7 = (.tuple #[(.slice x_5a x_5l x_5c), (.int .i64 x_6)]) ∧
  ifB (x_6 != 0)
  (K (.bool false) m_7)
  (loopE [0, 1, 4, 7, 9] (evCode (cfgOf Tryz.prog pureF pureT C [(7, [0, 1, 4, 7, 9])] 143) (codeAt (bodyOf Tryz.prog 143) [1, 1, 1, 1, 1, 0, 1, 0, 0])) (kAt (cfgOf Tryz.prog pureF pureT C [(7, [0, 1, 4, 7, 9])] 143) (bodyOf Tryz.prog 143) [1, 1, 1, 1, 1, 0, 1, 0] (endK Tryz.prog 143 K)) [(0, (ptr a0 0)), (1, (.int .i64 q1)), (4, (.bool false)), (7, (.slice x_5a x_5l x_5c)), (9, (.int .i64 0))] m_7)) m_3) m
theorem e143 (C : CallT) (a0 : Nat) (q1 : Int) (K : Value → Mem → Prop) (m : Mem) : evFn Tryz.prog pureF pureT C [(7, [0, 1, 4, 7, 9])] 143 [(ptr a0 0), (.int .i64 q1)] K m = s143 C a0 q1 K m := by kernel_rfl
theorem call143 {W0 : World} {a0 : Nat} {q1 : Int} {K : Value → Mem → Prop} {m : Mem} (h : s143 (callOK Tryz.prog W0) a0 q1 K m) : callOK Tryz.prog W0 143 [(ptr a0 0), (.int .i64 q1)] K m :=
  evFn_sound pureOk mixedP (fun w => Tryz.call143 _ w) ((e143 (callOK Tryz.prog W0) a0 q1 K m).symm ▸ h)
def s143_1 (C : CallT) (a0 : Nat) (q1 : Int) (t4 : Bool) (rc7a : Option Addr) (rc7l rc7c : Nat) (i9 : Int) (Kt : Exit → Fr → Mem → Prop) (m : Mem) : Prop :=
  ifB (decide (i9 < ((rc7l : Nat) : Int)))
  (ckP rc7a fun b_8 o_8 =>
  ckI i9 rc7l fun j_9 =>
  ldInt .i64 m b_8 (o_8 + j_9) fun x_10 =>
  ifB (x_10 != (IntKind.wrap .i64 (0 - q1)))
  (C 153 [(ptr a0 0), (.int .i64 x_10)] (fun rm_12 m_12 =>
  ∃ x_11, rm_12 = (.bool x_11) ∧
  ifB (!x_11)
  (ldPtr m_12 a0 0 fun p_13 =>
  C 112 [(.pointer p_13), (.int .i64 (goVar x_10))] (fun rm_15 m_15 =>
  ∃ x_14, rm_15 = (.int .i64 x_14) ∧
  ifB (x_14 != 0)
  (Kt .ret [(0, (ptr a0 0)), (1, (.int .i64 q1)), (4, (.bool false)), (7, (.slice rc7a rc7l rc7c)), (9, (.int .i64 i9))] m_15)
  (Kt .normal [(0, (ptr a0 0)), (1, (.int .i64 q1)), (4, (.bool t4)), (7, (.slice rc7a rc7l rc7c)), (9, (.int .i64 (IntKind.wrap .i64 (i9 + 1))))] m_15)) m_12)
  (Kt .normal [(0, (ptr a0 0)), (1, (.int .i64 q1)), (4, (.bool t4)), (7, (.slice rc7a rc7l rc7c)), (9, (.int .i64 (IntKind.wrap .i64 (i9 + 1))))] m_12)) m)
  (Kt .normal [(0, (ptr a0 0)), (1, (.int .i64 q1)), (4, (.bool t4)), (7, (.slice rc7a rc7l rc7c)), (9, (.int .i64 (IntKind.wrap .i64 (i9 + 1))))] m))
  (Kt (.exit 0) [(0, (ptr a0 0)), (1, (.int .i64 q1)), (4, (.bool t4)), (7, (.slice rc7a rc7l rc7c)), (9, (.int .i64 i9))] m)
theorem e143_1 {C : CallT} {a0 : Nat} {q1 : Int} {t4 : Bool} {rc7a : Option Addr} {rc7l rc7c : Nat} {i9 : Int} {Kt : Exit → Fr → Mem → Prop} {m : Mem} (h : s143_1 C a0 q1 t4 rc7a rc7l rc7c i9 Kt m) : evCode (cfgOf Tryz.prog pureF pureT C [(7, [0, 1, 4, 7, 9])] 143) (codeAt (bodyOf Tryz.prog 143) [1, 1, 1, 1, 1, 0, 1, 0, 0]) (trimK [0, 1, 4, 7, 9] Kt) [(0, (ptr a0 0)), (1, (.int .i64 q1)), (4, (.bool t4)), (7, (.slice rc7a rc7l rc7c)), (9, (.int .i64 i9))] m :=
  (show _ = _ by kernel_rfl : evCode (cfgOf Tryz.prog pureF pureT C [(7, [0, 1, 4, 7, 9])] 143) (codeAt (bodyOf Tryz.prog 143) [1, 1, 1, 1, 1, 0, 1, 0, 0]) (trimK [0, 1, 4, 7, 9] Kt) [(0, (ptr a0 0)), (1, (.int .i64 q1)), (4, (.bool t4)), (7, (.slice rc7a rc7l rc7c)), (9, (.int .i64 i9))] m = s143_1 C a0 q1 t4 rc7a rc7l rc7c i9 Kt m).symm ▸ h
def s143_1r (C : CallT) (a0 : Nat) (q1 : Int) (t4 : Bool) (rc7a : Option Addr) (rc7l rc7c : Nat) (i9 : Int) (K : Value → Mem → Prop) (m : Mem) : Prop :=
  K (.bool t4) m
theorem e143_1r {C : CallT} {kn : Fr → Mem → Prop} {a0 : Nat} {q1 : Int} {t4 : Bool} {rc7a : Option Addr} {rc7l rc7c : Nat} {i9 : Int} {K : Value → Mem → Prop} {m : Mem} : (andThenE kn (kAt (cfgOf Tryz.prog pureF pureT C [(7, [0, 1, 4, 7, 9])] 143) (bodyOf Tryz.prog 143) [1, 1, 1, 1, 1, 0, 1, 0] (endK Tryz.prog 143 K)) .ret [(0, (ptr a0 0)), (1, (.int .i64 q1)), (4, (.bool t4)), (7, (.slice rc7a rc7l rc7c)), (9, (.int .i64 i9))] m) = s143_1r C a0 q1 t4 rc7a rc7l rc7c i9 K m := by kernel_rfl
def s143_1x0 (C : CallT) (a0 : Nat) (q1 : Int) (t4 : Bool) (rc7a : Option Addr) (rc7l rc7c : Nat) (i9 : Int) (K : Value → Mem → Prop) (m : Mem) : Prop :=
  K (.bool true) m
theorem e143_1x0 {C : CallT} {kn : Fr → Mem → Prop} {a0 : Nat} {q1 : Int} {t4 : Bool} {rc7a : Option Addr} {rc7l rc7c : Nat} {i9 : Int} {K : Value → Mem → Prop} {m : Mem} : (andThenE kn (kAt (cfgOf Tryz.prog pureF pureT C [(7, [0, 1, 4, 7, 9])] 143) (bodyOf Tryz.prog 143) [1, 1, 1, 1, 1, 0, 1, 0] (endK Tryz.prog 143 K)) (.exit 0) [(0, (ptr a0 0)), (1, (.int .i64 q1)), (4, (.bool t4)), (7, (.slice rc7a rc7l rc7c)), (9, (.int .i64 i9))] m) = s143_1x0 C a0 q1 t4 rc7a rc7l rc7c i9 K m := by kernel_rfl
def F143_1 (a0 : Nat) (q1 : Int) (t4 : Bool) (rc7a : Option Addr) (rc7l rc7c : Nat) (i9 : Int) : Fr := [(0, (ptr a0 0)), (1, (.int .i64 q1)), (4, (.bool t4)), (7, (.slice rc7a rc7l rc7c)), (9, (.int .i64 i9))]
theorem loop143_1 {C : CallT} {γ : Type} {a0 : Nat} {q1 : Int} {rc7a : Option Addr} {rc7l rc7c : Nat} {K : Value → Mem → Prop} {m : Mem} (J : γ → Bool → Int → Mem → Prop) (μ : γ → Bool → Int → Nat) (g : γ) {t4 : Bool} {i9 : Int} (hJ : J g t4 i9 m)
    (hs : ∀ g t4 i9 m, J g t4 i9 m → s143_1 C a0 q1 t4 rc7a rc7l rc7c i9 (andThenE (fun fr m' => ∃ g' t4' i9', fr = F143_1 a0 q1 t4' rc7a rc7l rc7c i9' ∧ J g' t4' i9' m' ∧ μ g' t4' i9' < μ g t4 i9) (kAt (cfgOf Tryz.prog pureF pureT C [(7, [0, 1, 4, 7, 9])] 143) (bodyOf Tryz.prog 143) [1, 1, 1, 1, 1, 0, 1, 0] (endK Tryz.prog 143 K))) m) :
    loopE [0, 1, 4, 7, 9] (evCode (cfgOf Tryz.prog pureF pureT C [(7, [0, 1, 4, 7, 9])] 143) (codeAt (bodyOf Tryz.prog 143) [1, 1, 1, 1, 1, 0, 1, 0, 0])) (kAt (cfgOf Tryz.prog pureF pureT C [(7, [0, 1, 4, 7, 9])] 143) (bodyOf Tryz.prog 143) [1, 1, 1, 1, 1, 0, 1, 0] (endK Tryz.prog 143 K)) [(0, (ptr a0 0)), (1, (.int .i64 q1)), (4, (.bool t4)), (7, (.slice rc7a rc7l rc7c)), (9, (.int .i64 i9))] m := by
  refine loop_rule (σ := γ × Bool × Int) (fun s => F143_1 a0 q1 s.2.1 rc7a rc7l rc7c s.2.2) (fun s m => J s.1 s.2.1 s.2.2 m) (fun s => μ s.1 s.2.1 s.2.2) (g, t4, i9) rfl hJ ?_
  intro s m hJ
  have h := hs s.1 s.2.1 s.2.2 m hJ
  refine e143_1 ?_
  refine Eq.mp (congrArg (fun B => s143_1 C a0 q1 s.2.1 rc7a rc7l rc7c s.2.2 (andThenE B (kAt (cfgOf Tryz.prog pureF pureT C [(7, [0, 1, 4, 7, 9])] 143) (bodyOf Tryz.prog 143) [1, 1, 1, 1, 1, 0, 1, 0] (endK Tryz.prog 143 K))) m) ?_) h
  funext fr m'
  apply propext
  constructor
  · rintro ⟨g', t4', i9', h1, h2, h3⟩
    exact ⟨(g', t4', i9'), h1, h2, h3⟩
  · rintro ⟨⟨g', t4', i9'⟩, h1, h2, h3⟩
    exact ⟨g', t4', i9', h1, h2, h3⟩

def s145 (C : CallT) (w0 : Nat) (id1 : Int) (K : Value → Mem → Prop) (m : Mem) : Prop :=
  ckI (IntKind.wrap .i64 (id1 * 12)) 624 fun j_1 =>
  ldInt .i64 m w0 (1 + j_1) fun x_2 =>
  ckI (goCode x_2) 26 fun j_3 =>
  ldInt .u64 m w0 (680 + j_3) fun x_4 =>
  ckI (goCode x_2) 26 fun j_5 =>
  st m w0 (680 + j_5) (.int .u64 (bAndNot .u64 x_4 (goBit id1))) fun m_6 =>
  ckI (IntKind.wrap .i64 ((IntKind.wrap .i64 (id1 * 12)) + 1)) 624 fun j_7 =>
  ldInt .i64 m_6 w0 (1 + j_7) fun x_8 =>
  ckI (goCode x_8) 26 fun j_9 =>
  ldInt .u64 m_6 w0 (680 + j_9) fun x_10 =>
  ckI (goCode x_8) 26 fun j_11 =>
  st m_6 w0 (680 + j_11) (.int .u64 (bAndNot .u64 x_10 (goBit id1))) fun m_12 =>
  K (.tuple #[]) m_12
theorem e145 (C : CallT) (w0 : Nat) (id1 : Int) (K : Value → Mem → Prop) (m : Mem) : evFn Tryz.prog pureF pureT C [] 145 [(ptr w0 0), (.int .i64 id1)] K m = s145 C w0 id1 K m := by kernel_rfl
theorem call145 {W0 : World} {w0 : Nat} {id1 : Int} {K : Value → Mem → Prop} {m : Mem} (h : s145 (callOK Tryz.prog W0) w0 id1 K m) : callOK Tryz.prog W0 145 [(ptr w0 0), (.int .i64 id1)] K m :=
  evFn_sound pureOk mixedP (fun w => Tryz.call145 _ w) ((e145 (callOK Tryz.prog W0) w0 id1 K m).symm ▸ h)

def s146 (C : CallT) (k0 : Nat) (yes1 : Int) (no2 : Int) (K : Value → Mem → Prop) (m : Mem) : Prop :=
  loopE [0, 1, 2, 6, 7, 8, 9] (evCode (cfgOf Tryz.prog pureF pureT C [(2, [0, 1, 2, 6, 7, 8, 9])] 146) (codeAt (bodyOf Tryz.prog 146) [1, 0, 1, 0, 0])) (kAt (cfgOf Tryz.prog pureF pureT C [(2, [0, 1, 2, 6, 7, 8, 9])] 146) (bodyOf Tryz.prog 146) [1, 0, 1, 0] (endK Tryz.prog 146 K)) [(0, (ptr k0 0)), (1, (.int .u16 yes1)), (2, (.int .u16 no2)), (6, (.int .u16 0)), (7, (.int .u16 0)), (8, (.bool false)), (9, (.int .i64 0))] m
theorem e146 (C : CallT) (k0 : Nat) (yes1 : Int) (no2 : Int) (K : Value → Mem → Prop) (m : Mem) : evFn Tryz.prog pureF pureT C [(2, [0, 1, 2, 6, 7, 8, 9])] 146 [(ptr k0 0), (.int .u16 yes1), (.int .u16 no2)] K m = s146 C k0 yes1 no2 K m := by kernel_rfl
theorem call146 {W0 : World} {k0 : Nat} {yes1 : Int} {no2 : Int} {K : Value → Mem → Prop} {m : Mem} (h : s146 (callOK Tryz.prog W0) k0 yes1 no2 K m) : callOK Tryz.prog W0 146 [(ptr k0 0), (.int .u16 yes1), (.int .u16 no2)] K m :=
  evFn_sound pureOk mixedP (fun w => Tryz.call146 _ w) ((e146 (callOK Tryz.prog W0) k0 yes1 no2 K m).symm ▸ h)
def s146_1 (C : CallT) (k0 : Nat) (yes1 : Int) (no2 : Int) (t6 : Int) (t7 : Int) (t8 : Bool) (s9 : Int) (Kt : Exit → Fr → Mem → Prop) (m : Mem) : Prop :=
  ifB (decide (s9 < 64))
  (ldInt .u64 m k0 129 fun x_1 =>
  ifB ((bAnd .u64 x_1 (goSlotBit s9)) == 0)
  (Kt .normal [(0, (ptr k0 0)), (1, (.int .u16 yes1)), (2, (.int .u16 no2)), (6, (.int .u16 t6)), (7, (.int .u16 t7)), (8, (.bool t8)), (9, (.int .i64 (IntKind.wrap .i64 (s9 + 1))))] m)
  (ckI s9 64 fun j_2 =>
  ldInt .u16 m k0 (1 + j_2) fun x_3 =>
  ckI s9 64 fun j_4 =>
  ldInt .u16 m k0 (65 + j_4) fun x_5 =>
  ifB ((bOr .u16 (bAnd .u16 x_3 yes1) (bAnd .u16 x_5 no2)) != 0)
  (Kt .normal [(0, (ptr k0 0)), (1, (.int .u16 yes1)), (2, (.int .u16 no2)), (6, (.int .u16 t6)), (7, (.int .u16 t7)), (8, (.bool t8)), (9, (.int .i64 (IntKind.wrap .i64 (s9 + 1))))] m)
  (ifB ((bOr .u16 (bAndNot .u16 x_3 (bOr .u16 yes1 no2)) (bAndNot .u16 x_5 (bOr .u16 yes1 no2))) == 0)
  (Kt .ret [(0, (ptr k0 0)), (1, (.int .u16 yes1)), (2, (.int .u16 no2)), (6, (.int .u16 yes1)), (7, (.int .u16 no2)), (8, (.bool true)), (9, (.int .i64 s9))] m)
  (ifB ((bAndNot .u16 x_5 (bOr .u16 yes1 no2)) == 0)
  (ifB (goOne (bAndNot .u16 x_3 (bOr .u16 yes1 no2)))
  (Kt .normal [(0, (ptr k0 0)), (1, (.int .u16 (bOr .u16 yes1 (bAndNot .u16 x_3 (bOr .u16 yes1 no2))))), (2, (.int .u16 no2)), (6, (.int .u16 t6)), (7, (.int .u16 t7)), (8, (.bool t8)), (9, (.int .i64 (IntKind.wrap .i64 (s9 + 1))))] m)
  (Kt .normal [(0, (ptr k0 0)), (1, (.int .u16 yes1)), (2, (.int .u16 no2)), (6, (.int .u16 t6)), (7, (.int .u16 t7)), (8, (.bool t8)), (9, (.int .i64 (IntKind.wrap .i64 (s9 + 1))))] m))
  (ifB ((bAndNot .u16 x_3 (bOr .u16 yes1 no2)) == 0)
  (ifB (goOne (bAndNot .u16 x_5 (bOr .u16 yes1 no2)))
  (Kt .normal [(0, (ptr k0 0)), (1, (.int .u16 yes1)), (2, (.int .u16 (bOr .u16 no2 (bAndNot .u16 x_5 (bOr .u16 yes1 no2))))), (6, (.int .u16 t6)), (7, (.int .u16 t7)), (8, (.bool t8)), (9, (.int .i64 (IntKind.wrap .i64 (s9 + 1))))] m)
  (Kt .normal [(0, (ptr k0 0)), (1, (.int .u16 yes1)), (2, (.int .u16 no2)), (6, (.int .u16 t6)), (7, (.int .u16 t7)), (8, (.bool t8)), (9, (.int .i64 (IntKind.wrap .i64 (s9 + 1))))] m))
  (Kt .normal [(0, (ptr k0 0)), (1, (.int .u16 yes1)), (2, (.int .u16 no2)), (6, (.int .u16 t6)), (7, (.int .u16 t7)), (8, (.bool t8)), (9, (.int .i64 (IntKind.wrap .i64 (s9 + 1))))] m))))))
  (Kt (.exit 0) [(0, (ptr k0 0)), (1, (.int .u16 yes1)), (2, (.int .u16 no2)), (6, (.int .u16 t6)), (7, (.int .u16 t7)), (8, (.bool t8)), (9, (.int .i64 s9))] m)
theorem e146_1 {C : CallT} {k0 : Nat} {yes1 : Int} {no2 : Int} {t6 : Int} {t7 : Int} {t8 : Bool} {s9 : Int} {Kt : Exit → Fr → Mem → Prop} {m : Mem} (h : s146_1 C k0 yes1 no2 t6 t7 t8 s9 Kt m) : evCode (cfgOf Tryz.prog pureF pureT C [(2, [0, 1, 2, 6, 7, 8, 9])] 146) (codeAt (bodyOf Tryz.prog 146) [1, 0, 1, 0, 0]) (trimK [0, 1, 2, 6, 7, 8, 9] Kt) [(0, (ptr k0 0)), (1, (.int .u16 yes1)), (2, (.int .u16 no2)), (6, (.int .u16 t6)), (7, (.int .u16 t7)), (8, (.bool t8)), (9, (.int .i64 s9))] m :=
  (show _ = _ by kernel_rfl : evCode (cfgOf Tryz.prog pureF pureT C [(2, [0, 1, 2, 6, 7, 8, 9])] 146) (codeAt (bodyOf Tryz.prog 146) [1, 0, 1, 0, 0]) (trimK [0, 1, 2, 6, 7, 8, 9] Kt) [(0, (ptr k0 0)), (1, (.int .u16 yes1)), (2, (.int .u16 no2)), (6, (.int .u16 t6)), (7, (.int .u16 t7)), (8, (.bool t8)), (9, (.int .i64 s9))] m = s146_1 C k0 yes1 no2 t6 t7 t8 s9 Kt m).symm ▸ h
def s146_1r (C : CallT) (k0 : Nat) (yes1 : Int) (no2 : Int) (t6 : Int) (t7 : Int) (t8 : Bool) (s9 : Int) (K : Value → Mem → Prop) (m : Mem) : Prop :=
  K (.tuple #[(.int .u16 t6), (.int .u16 t7), (.bool t8)]) m
theorem e146_1r {C : CallT} {kn : Fr → Mem → Prop} {k0 : Nat} {yes1 : Int} {no2 : Int} {t6 : Int} {t7 : Int} {t8 : Bool} {s9 : Int} {K : Value → Mem → Prop} {m : Mem} : (andThenE kn (kAt (cfgOf Tryz.prog pureF pureT C [(2, [0, 1, 2, 6, 7, 8, 9])] 146) (bodyOf Tryz.prog 146) [1, 0, 1, 0] (endK Tryz.prog 146 K)) .ret [(0, (ptr k0 0)), (1, (.int .u16 yes1)), (2, (.int .u16 no2)), (6, (.int .u16 t6)), (7, (.int .u16 t7)), (8, (.bool t8)), (9, (.int .i64 s9))] m) = s146_1r C k0 yes1 no2 t6 t7 t8 s9 K m := by kernel_rfl
def s146_1x0 (C : CallT) (k0 : Nat) (yes1 : Int) (no2 : Int) (t6 : Int) (t7 : Int) (t8 : Bool) (s9 : Int) (K : Value → Mem → Prop) (m : Mem) : Prop :=
  K (.tuple #[(.int .u16 yes1), (.int .u16 no2), (.bool false)]) m
theorem e146_1x0 {C : CallT} {kn : Fr → Mem → Prop} {k0 : Nat} {yes1 : Int} {no2 : Int} {t6 : Int} {t7 : Int} {t8 : Bool} {s9 : Int} {K : Value → Mem → Prop} {m : Mem} : (andThenE kn (kAt (cfgOf Tryz.prog pureF pureT C [(2, [0, 1, 2, 6, 7, 8, 9])] 146) (bodyOf Tryz.prog 146) [1, 0, 1, 0] (endK Tryz.prog 146 K)) (.exit 0) [(0, (ptr k0 0)), (1, (.int .u16 yes1)), (2, (.int .u16 no2)), (6, (.int .u16 t6)), (7, (.int .u16 t7)), (8, (.bool t8)), (9, (.int .i64 s9))] m) = s146_1x0 C k0 yes1 no2 t6 t7 t8 s9 K m := by kernel_rfl
def F146_1 (k0 : Nat) (yes1 : Int) (no2 : Int) (t6 : Int) (t7 : Int) (t8 : Bool) (s9 : Int) : Fr := [(0, (ptr k0 0)), (1, (.int .u16 yes1)), (2, (.int .u16 no2)), (6, (.int .u16 t6)), (7, (.int .u16 t7)), (8, (.bool t8)), (9, (.int .i64 s9))]
theorem loop146_1 {C : CallT} {γ : Type} {k0 : Nat} {K : Value → Mem → Prop} {m : Mem} (J : γ → Int → Int → Int → Int → Bool → Int → Mem → Prop) (μ : γ → Int → Int → Int → Int → Bool → Int → Nat) (g : γ) {yes1 : Int} {no2 : Int} {t6 : Int} {t7 : Int} {t8 : Bool} {s9 : Int} (hJ : J g yes1 no2 t6 t7 t8 s9 m)
    (hs : ∀ g yes1 no2 t6 t7 t8 s9 m, J g yes1 no2 t6 t7 t8 s9 m → s146_1 C k0 yes1 no2 t6 t7 t8 s9 (andThenE (fun fr m' => ∃ g' yes1' no2' t6' t7' t8' s9', fr = F146_1 k0 yes1' no2' t6' t7' t8' s9' ∧ J g' yes1' no2' t6' t7' t8' s9' m' ∧ μ g' yes1' no2' t6' t7' t8' s9' < μ g yes1 no2 t6 t7 t8 s9) (kAt (cfgOf Tryz.prog pureF pureT C [(2, [0, 1, 2, 6, 7, 8, 9])] 146) (bodyOf Tryz.prog 146) [1, 0, 1, 0] (endK Tryz.prog 146 K))) m) :
    loopE [0, 1, 2, 6, 7, 8, 9] (evCode (cfgOf Tryz.prog pureF pureT C [(2, [0, 1, 2, 6, 7, 8, 9])] 146) (codeAt (bodyOf Tryz.prog 146) [1, 0, 1, 0, 0])) (kAt (cfgOf Tryz.prog pureF pureT C [(2, [0, 1, 2, 6, 7, 8, 9])] 146) (bodyOf Tryz.prog 146) [1, 0, 1, 0] (endK Tryz.prog 146 K)) [(0, (ptr k0 0)), (1, (.int .u16 yes1)), (2, (.int .u16 no2)), (6, (.int .u16 t6)), (7, (.int .u16 t7)), (8, (.bool t8)), (9, (.int .i64 s9))] m := by
  refine loop_rule (σ := γ × Int × Int × Int × Int × Bool × Int) (fun s => F146_1 k0 s.2.1 s.2.2.1 s.2.2.2.1 s.2.2.2.2.1 s.2.2.2.2.2.1 s.2.2.2.2.2.2) (fun s m => J s.1 s.2.1 s.2.2.1 s.2.2.2.1 s.2.2.2.2.1 s.2.2.2.2.2.1 s.2.2.2.2.2.2 m) (fun s => μ s.1 s.2.1 s.2.2.1 s.2.2.2.1 s.2.2.2.2.1 s.2.2.2.2.2.1 s.2.2.2.2.2.2) (g, yes1, no2, t6, t7, t8, s9) rfl hJ ?_
  intro s m hJ
  have h := hs s.1 s.2.1 s.2.2.1 s.2.2.2.1 s.2.2.2.2.1 s.2.2.2.2.2.1 s.2.2.2.2.2.2 m hJ
  refine e146_1 ?_
  refine Eq.mp (congrArg (fun B => s146_1 C k0 s.2.1 s.2.2.1 s.2.2.2.1 s.2.2.2.2.1 s.2.2.2.2.2.1 s.2.2.2.2.2.2 (andThenE B (kAt (cfgOf Tryz.prog pureF pureT C [(2, [0, 1, 2, 6, 7, 8, 9])] 146) (bodyOf Tryz.prog 146) [1, 0, 1, 0] (endK Tryz.prog 146 K))) m) ?_) h
  funext fr m'
  apply propext
  constructor
  · rintro ⟨g', yes1', no2', t6', t7', t8', s9', h1, h2, h3⟩
    exact ⟨(g', yes1', no2', t6', t7', t8', s9'), h1, h2, h3⟩
  · rintro ⟨⟨g', yes1', no2', t6', t7', t8', s9'⟩, h1, h2, h3⟩
    exact ⟨g', yes1', no2', t6', t7', t8', s9', h1, h2, h3⟩

def s147 (C : CallT) (pre0a : Option Addr) (pre0l pre0c : Nat) (K : Value → Mem → Prop) (m : Mem) : Prop :=
  loopE [0, 3, 4] (evCode (cfgOf Tryz.prog pureF pureT C [(3, [0, 3, 4])] 147) (codeAt (bodyOf Tryz.prog 147) [1, 1, 0, 1, 0, 0])) (kAt (cfgOf Tryz.prog pureF pureT C [(3, [0, 3, 4])] 147) (bodyOf Tryz.prog 147) [1, 1, 0, 1, 0] (endK Tryz.prog 147 K)) [(0, (.slice pre0a pre0l pre0c)), (3, (.slice none 0 0)), (4, (.int .i64 0))] m
theorem e147 (C : CallT) (pre0a : Option Addr) (pre0l pre0c : Nat) (K : Value → Mem → Prop) (m : Mem) : evFn Tryz.prog pureF pureT C [(3, [0, 3, 4])] 147 [(.slice pre0a pre0l pre0c)] K m = s147 C pre0a pre0l pre0c K m := by kernel_rfl
theorem call147 {W0 : World} {pre0a : Option Addr} {pre0l pre0c : Nat} {K : Value → Mem → Prop} {m : Mem} (h : s147 (callOK Tryz.prog W0) pre0a pre0l pre0c K m) : callOK Tryz.prog W0 147 [(.slice pre0a pre0l pre0c)] K m :=
  evFn_sound pureOk mixedP (fun w => Tryz.call147 _ w) ((e147 (callOK Tryz.prog W0) pre0a pre0l pre0c K m).symm ▸ h)
def s147_1 (C : CallT) (pre0a : Option Addr) (pre0l pre0c : Nat) (c3a : Option Addr) (c3l c3c : Nat) (i4 : Int) (Kt : Exit → Fr → Mem → Prop) (m : Mem) : Prop :=
  ifB (decide (i4 < ((pre0l : Nat) : Int)))
  (ckP pre0a fun b_1 o_1 =>
  ckI i4 pre0l fun j_2 =>
  ldInt .i64 m b_1 (o_1 + j_2) fun x_3 =>
  allocB m (Blk.ofList [(.int .i64 (IntKind.wrap .i64 (0 - x_3)))]) fun b_4 m_5 =>
  rdRow m_5 (some ⟨b_4, 0, none⟩) (1 * 1) fun r_8 =>
  appendC m_5 1 8 [(.int .i64 0)] c3a c3l c3c 1 r_8 fun a_6 c_6 m_7 =>
  Kt .normal [(0, (.slice pre0a pre0l pre0c)), (3, (.slice a_6 (c3l + 1) c_6)), (4, (.int .i64 (IntKind.wrap .i64 (i4 + 1))))] m_7)
  (Kt (.exit 0) [(0, (.slice pre0a pre0l pre0c)), (3, (.slice c3a c3l c3c)), (4, (.int .i64 i4))] m)
theorem e147_1 {C : CallT} {pre0a : Option Addr} {pre0l pre0c : Nat} {c3a : Option Addr} {c3l c3c : Nat} {i4 : Int} {Kt : Exit → Fr → Mem → Prop} {m : Mem} (h : s147_1 C pre0a pre0l pre0c c3a c3l c3c i4 Kt m) : evCode (cfgOf Tryz.prog pureF pureT C [(3, [0, 3, 4])] 147) (codeAt (bodyOf Tryz.prog 147) [1, 1, 0, 1, 0, 0]) (trimK [0, 3, 4] Kt) [(0, (.slice pre0a pre0l pre0c)), (3, (.slice c3a c3l c3c)), (4, (.int .i64 i4))] m :=
  (show _ = _ by kernel_rfl : evCode (cfgOf Tryz.prog pureF pureT C [(3, [0, 3, 4])] 147) (codeAt (bodyOf Tryz.prog 147) [1, 1, 0, 1, 0, 0]) (trimK [0, 3, 4] Kt) [(0, (.slice pre0a pre0l pre0c)), (3, (.slice c3a c3l c3c)), (4, (.int .i64 i4))] m = s147_1 C pre0a pre0l pre0c c3a c3l c3c i4 Kt m).symm ▸ h
def s147_1x0 (C : CallT) (pre0a : Option Addr) (pre0l pre0c : Nat) (c3a : Option Addr) (c3l c3c : Nat) (i4 : Int) (K : Value → Mem → Prop) (m : Mem) : Prop :=
  K (.slice c3a c3l c3c) m
theorem e147_1x0 {C : CallT} {kn : Fr → Mem → Prop} {pre0a : Option Addr} {pre0l pre0c : Nat} {c3a : Option Addr} {c3l c3c : Nat} {i4 : Int} {K : Value → Mem → Prop} {m : Mem} : (andThenE kn (kAt (cfgOf Tryz.prog pureF pureT C [(3, [0, 3, 4])] 147) (bodyOf Tryz.prog 147) [1, 1, 0, 1, 0] (endK Tryz.prog 147 K)) (.exit 0) [(0, (.slice pre0a pre0l pre0c)), (3, (.slice c3a c3l c3c)), (4, (.int .i64 i4))] m) = s147_1x0 C pre0a pre0l pre0c c3a c3l c3c i4 K m := by kernel_rfl
def F147_1 (pre0a : Option Addr) (pre0l pre0c : Nat) (c3a : Option Addr) (c3l c3c : Nat) (i4 : Int) : Fr := [(0, (.slice pre0a pre0l pre0c)), (3, (.slice c3a c3l c3c)), (4, (.int .i64 i4))]
theorem loop147_1 {C : CallT} {γ : Type} {pre0a : Option Addr} {pre0l pre0c : Nat} {K : Value → Mem → Prop} {m : Mem} (J : γ → Option Addr → Nat → Nat → Int → Mem → Prop) (μ : γ → Option Addr → Nat → Nat → Int → Nat) (g : γ) {c3a : Option Addr} {c3l c3c : Nat} {i4 : Int} (hJ : J g c3a c3l c3c i4 m)
    (hs : ∀ g c3a c3l c3c i4 m, J g c3a c3l c3c i4 m → s147_1 C pre0a pre0l pre0c c3a c3l c3c i4 (andThenE (fun fr m' => ∃ g' c3a' c3l' c3c' i4', fr = F147_1 pre0a pre0l pre0c c3a' c3l' c3c' i4' ∧ J g' c3a' c3l' c3c' i4' m' ∧ μ g' c3a' c3l' c3c' i4' < μ g c3a c3l c3c i4) (kAt (cfgOf Tryz.prog pureF pureT C [(3, [0, 3, 4])] 147) (bodyOf Tryz.prog 147) [1, 1, 0, 1, 0] (endK Tryz.prog 147 K))) m) :
    loopE [0, 3, 4] (evCode (cfgOf Tryz.prog pureF pureT C [(3, [0, 3, 4])] 147) (codeAt (bodyOf Tryz.prog 147) [1, 1, 0, 1, 0, 0])) (kAt (cfgOf Tryz.prog pureF pureT C [(3, [0, 3, 4])] 147) (bodyOf Tryz.prog 147) [1, 1, 0, 1, 0] (endK Tryz.prog 147 K)) [(0, (.slice pre0a pre0l pre0c)), (3, (.slice c3a c3l c3c)), (4, (.int .i64 i4))] m := by
  refine loop_rule (σ := γ × Option Addr × Nat × Nat × Int) (fun s => F147_1 pre0a pre0l pre0c s.2.1 s.2.2.1 s.2.2.2.1 s.2.2.2.2) (fun s m => J s.1 s.2.1 s.2.2.1 s.2.2.2.1 s.2.2.2.2 m) (fun s => μ s.1 s.2.1 s.2.2.1 s.2.2.2.1 s.2.2.2.2) (g, c3a, c3l, c3c, i4) rfl hJ ?_
  intro s m hJ
  have h := hs s.1 s.2.1 s.2.2.1 s.2.2.2.1 s.2.2.2.2 m hJ
  refine e147_1 ?_
  refine Eq.mp (congrArg (fun B => s147_1 C pre0a pre0l pre0c s.2.1 s.2.2.1 s.2.2.2.1 s.2.2.2.2 (andThenE B (kAt (cfgOf Tryz.prog pureF pureT C [(3, [0, 3, 4])] 147) (bodyOf Tryz.prog 147) [1, 1, 0, 1, 0] (endK Tryz.prog 147 K))) m) ?_) h
  funext fr m'
  apply propext
  constructor
  · rintro ⟨g', c3a', c3l', c3c', i4', h1, h2, h3⟩
    exact ⟨(g', c3a', c3l', c3c', i4'), h1, h2, h3⟩
  · rintro ⟨⟨g', c3a', c3l', c3c', i4'⟩, h1, h2, h3⟩
    exact ⟨g', c3a', c3l', c3c', i4', h1, h2, h3⟩

def s148 (C : CallT) (cs0a : Option Addr) (cs0l cs0c : Nat) (v1 : Int) (K : Value → Mem → Prop) (m : Mem) : Prop :=
  loopE [0, 4, 5] (evCode (cfgOf Tryz.prog pureF pureT C [(2, [0, 4, 5]), (5, [0, 4, 5, 6])] 148) (codeAt (bodyOf Tryz.prog 148) [1, 0, 1, 0, 0])) (kAt (cfgOf Tryz.prog pureF pureT C [(2, [0, 4, 5]), (5, [0, 4, 5, 6])] 148) (bodyOf Tryz.prog 148) [1, 0, 1, 0] (endK Tryz.prog 148 K)) [(0, (.slice cs0a cs0l cs0c)), (4, (.int .i64 0)), (5, (.int .i64 (IntKind.wrap .i64 (v1 + 1))))] m
theorem e148 (C : CallT) (cs0a : Option Addr) (cs0l cs0c : Nat) (v1 : Int) (K : Value → Mem → Prop) (m : Mem) : evFn Tryz.prog pureF pureT C [(2, [0, 4, 5]), (5, [0, 4, 5, 6])] 148 [(.slice cs0a cs0l cs0c), (.int .i64 v1)] K m = s148 C cs0a cs0l cs0c v1 K m := by kernel_rfl
theorem call148 {W0 : World} {cs0a : Option Addr} {cs0l cs0c : Nat} {v1 : Int} {K : Value → Mem → Prop} {m : Mem} (h : s148 (callOK Tryz.prog W0) cs0a cs0l cs0c v1 K m) : callOK Tryz.prog W0 148 [(.slice cs0a cs0l cs0c), (.int .i64 v1)] K m :=
  evFn_sound pureOk mixedP (fun w => Tryz.call148 _ w) ((e148 (callOK Tryz.prog W0) cs0a cs0l cs0c v1 K m).symm ▸ h)
def s148_1 (C : CallT) (cs0a : Option Addr) (cs0l cs0c : Nat) (t4 : Int) (u5 : Int) (Kt : Exit → Fr → Mem → Prop) (m : Mem) : Prop :=
  ifB (decide (u5 ≤ 12))
  (loopE [0, 4, 5, 6] (evCode (cfgOf Tryz.prog pureF pureT C [(2, [0, 4, 5]), (5, [0, 4, 5, 6])] 148) (codeAt (codeAt (bodyOf Tryz.prog 148) [1, 0, 1, 0, 0]) [1, 0, 0, 1, 0, 0])) (kAt (cfgOf Tryz.prog pureF pureT C [(2, [0, 4, 5]), (5, [0, 4, 5, 6])] 148) (codeAt (bodyOf Tryz.prog 148) [1, 0, 1, 0, 0]) [1, 0, 0, 1, 0] (trimK [0, 4, 5] Kt)) [(0, (.slice cs0a cs0l cs0c)), (4, (.int .i64 t4)), (5, (.int .i64 u5)), (6, (.int .i64 0))] m)
  (Kt (.exit 0) [(0, (.slice cs0a cs0l cs0c)), (4, (.int .i64 t4)), (5, (.int .i64 u5))] m)
theorem e148_1 {C : CallT} {cs0a : Option Addr} {cs0l cs0c : Nat} {t4 : Int} {u5 : Int} {Kt : Exit → Fr → Mem → Prop} {m : Mem} (h : s148_1 C cs0a cs0l cs0c t4 u5 Kt m) : evCode (cfgOf Tryz.prog pureF pureT C [(2, [0, 4, 5]), (5, [0, 4, 5, 6])] 148) (codeAt (bodyOf Tryz.prog 148) [1, 0, 1, 0, 0]) (trimK [0, 4, 5] Kt) [(0, (.slice cs0a cs0l cs0c)), (4, (.int .i64 t4)), (5, (.int .i64 u5))] m :=
  (show _ = _ by kernel_rfl : evCode (cfgOf Tryz.prog pureF pureT C [(2, [0, 4, 5]), (5, [0, 4, 5, 6])] 148) (codeAt (bodyOf Tryz.prog 148) [1, 0, 1, 0, 0]) (trimK [0, 4, 5] Kt) [(0, (.slice cs0a cs0l cs0c)), (4, (.int .i64 t4)), (5, (.int .i64 u5))] m = s148_1 C cs0a cs0l cs0c t4 u5 Kt m).symm ▸ h
def s148_1r (C : CallT) (cs0a : Option Addr) (cs0l cs0c : Nat) (t4 : Int) (u5 : Int) (K : Value → Mem → Prop) (m : Mem) : Prop :=
  K (.int .i64 t4) m
theorem e148_1r {C : CallT} {kn : Fr → Mem → Prop} {cs0a : Option Addr} {cs0l cs0c : Nat} {t4 : Int} {u5 : Int} {K : Value → Mem → Prop} {m : Mem} : (andThenE kn (kAt (cfgOf Tryz.prog pureF pureT C [(2, [0, 4, 5]), (5, [0, 4, 5, 6])] 148) (bodyOf Tryz.prog 148) [1, 0, 1, 0] (endK Tryz.prog 148 K)) .ret [(0, (.slice cs0a cs0l cs0c)), (4, (.int .i64 t4)), (5, (.int .i64 u5))] m) = s148_1r C cs0a cs0l cs0c t4 u5 K m := by kernel_rfl
def s148_1x0 (C : CallT) (cs0a : Option Addr) (cs0l cs0c : Nat) (t4 : Int) (u5 : Int) (K : Value → Mem → Prop) (m : Mem) : Prop :=
  K (.int .i64 0) m
theorem e148_1x0 {C : CallT} {kn : Fr → Mem → Prop} {cs0a : Option Addr} {cs0l cs0c : Nat} {t4 : Int} {u5 : Int} {K : Value → Mem → Prop} {m : Mem} : (andThenE kn (kAt (cfgOf Tryz.prog pureF pureT C [(2, [0, 4, 5]), (5, [0, 4, 5, 6])] 148) (bodyOf Tryz.prog 148) [1, 0, 1, 0] (endK Tryz.prog 148 K)) (.exit 0) [(0, (.slice cs0a cs0l cs0c)), (4, (.int .i64 t4)), (5, (.int .i64 u5))] m) = s148_1x0 C cs0a cs0l cs0c t4 u5 K m := by kernel_rfl
def s148_2 (C : CallT) (cs0a : Option Addr) (cs0l cs0c : Nat) (t4 : Int) (u5 : Int) (i6 : Int) (Kt : Exit → Fr → Mem → Prop) (m : Mem) : Prop :=
  ifB (decide (i6 < ((cs0l : Nat) : Int)))
  (ckP cs0a fun b_1 o_1 =>
  ckI i6 cs0l fun j_2 =>
  ldSl m b_1 (o_1 + j_2) fun l_3a l_3l l_3c =>
  C 155 [(.int .i64 u5), (.slice l_3a l_3l l_3c)] (fun rm_5 m_5 =>
  ∃ x_4, rm_5 = (.int .i64 x_4) ∧
  ifB (x_4 != 0)
  (Kt .ret [(0, (.slice cs0a cs0l cs0c)), (4, (.int .i64 u5)), (5, (.int .i64 u5)), (6, (.int .i64 i6))] m_5)
  (Kt .normal [(0, (.slice cs0a cs0l cs0c)), (4, (.int .i64 t4)), (5, (.int .i64 u5)), (6, (.int .i64 (IntKind.wrap .i64 (i6 + 1))))] m_5)) m)
  (Kt (.exit 2) [(0, (.slice cs0a cs0l cs0c)), (4, (.int .i64 t4)), (5, (.int .i64 u5)), (6, (.int .i64 i6))] m)
theorem e148_2 {C : CallT} {cs0a : Option Addr} {cs0l cs0c : Nat} {t4 : Int} {u5 : Int} {i6 : Int} {Kt : Exit → Fr → Mem → Prop} {m : Mem} (h : s148_2 C cs0a cs0l cs0c t4 u5 i6 Kt m) : evCode (cfgOf Tryz.prog pureF pureT C [(2, [0, 4, 5]), (5, [0, 4, 5, 6])] 148) (codeAt (codeAt (bodyOf Tryz.prog 148) [1, 0, 1, 0, 0]) [1, 0, 0, 1, 0, 0]) (trimK [0, 4, 5, 6] Kt) [(0, (.slice cs0a cs0l cs0c)), (4, (.int .i64 t4)), (5, (.int .i64 u5)), (6, (.int .i64 i6))] m :=
  (show _ = _ by kernel_rfl : evCode (cfgOf Tryz.prog pureF pureT C [(2, [0, 4, 5]), (5, [0, 4, 5, 6])] 148) (codeAt (codeAt (bodyOf Tryz.prog 148) [1, 0, 1, 0, 0]) [1, 0, 0, 1, 0, 0]) (trimK [0, 4, 5, 6] Kt) [(0, (.slice cs0a cs0l cs0c)), (4, (.int .i64 t4)), (5, (.int .i64 u5)), (6, (.int .i64 i6))] m = s148_2 C cs0a cs0l cs0c t4 u5 i6 Kt m).symm ▸ h
def s148_2r (C : CallT) (cs0a : Option Addr) (cs0l cs0c : Nat) (t4 : Int) (u5 : Int) (i6 : Int) (Kt : Exit → Fr → Mem → Prop) (m : Mem) : Prop :=
  Kt .ret [(0, (.slice cs0a cs0l cs0c)), (4, (.int .i64 t4)), (5, (.int .i64 u5))] m
theorem e148_2r {C : CallT} {kn : Fr → Mem → Prop} {cs0a : Option Addr} {cs0l cs0c : Nat} {t4 : Int} {u5 : Int} {i6 : Int} {Kt : Exit → Fr → Mem → Prop} {m : Mem} : (andThenE kn (kAt (cfgOf Tryz.prog pureF pureT C [(2, [0, 4, 5]), (5, [0, 4, 5, 6])] 148) (codeAt (bodyOf Tryz.prog 148) [1, 0, 1, 0, 0]) [1, 0, 0, 1, 0] (trimK [0, 4, 5] Kt)) .ret [(0, (.slice cs0a cs0l cs0c)), (4, (.int .i64 t4)), (5, (.int .i64 u5)), (6, (.int .i64 i6))] m) = s148_2r C cs0a cs0l cs0c t4 u5 i6 Kt m := by kernel_rfl
def s148_2x2 (C : CallT) (cs0a : Option Addr) (cs0l cs0c : Nat) (t4 : Int) (u5 : Int) (i6 : Int) (Kt : Exit → Fr → Mem → Prop) (m : Mem) : Prop :=
  Kt .normal [(0, (.slice cs0a cs0l cs0c)), (4, (.int .i64 t4)), (5, (.int .i64 (IntKind.wrap .i64 (u5 + 1))))] m
theorem e148_2x2 {C : CallT} {kn : Fr → Mem → Prop} {cs0a : Option Addr} {cs0l cs0c : Nat} {t4 : Int} {u5 : Int} {i6 : Int} {Kt : Exit → Fr → Mem → Prop} {m : Mem} : (andThenE kn (kAt (cfgOf Tryz.prog pureF pureT C [(2, [0, 4, 5]), (5, [0, 4, 5, 6])] 148) (codeAt (bodyOf Tryz.prog 148) [1, 0, 1, 0, 0]) [1, 0, 0, 1, 0] (trimK [0, 4, 5] Kt)) (.exit 2) [(0, (.slice cs0a cs0l cs0c)), (4, (.int .i64 t4)), (5, (.int .i64 u5)), (6, (.int .i64 i6))] m) = s148_2x2 C cs0a cs0l cs0c t4 u5 i6 Kt m := by kernel_rfl
def F148_1 (cs0a : Option Addr) (cs0l cs0c : Nat) (t4 : Int) (u5 : Int) : Fr := [(0, (.slice cs0a cs0l cs0c)), (4, (.int .i64 t4)), (5, (.int .i64 u5))]
theorem loop148_1 {C : CallT} {γ : Type} {cs0a : Option Addr} {cs0l cs0c : Nat} {K : Value → Mem → Prop} {m : Mem} (J : γ → Int → Int → Mem → Prop) (μ : γ → Int → Int → Nat) (g : γ) {t4 : Int} {u5 : Int} (hJ : J g t4 u5 m)
    (hs : ∀ g t4 u5 m, J g t4 u5 m → s148_1 C cs0a cs0l cs0c t4 u5 (andThenE (fun fr m' => ∃ g' t4' u5', fr = F148_1 cs0a cs0l cs0c t4' u5' ∧ J g' t4' u5' m' ∧ μ g' t4' u5' < μ g t4 u5) (kAt (cfgOf Tryz.prog pureF pureT C [(2, [0, 4, 5]), (5, [0, 4, 5, 6])] 148) (bodyOf Tryz.prog 148) [1, 0, 1, 0] (endK Tryz.prog 148 K))) m) :
    loopE [0, 4, 5] (evCode (cfgOf Tryz.prog pureF pureT C [(2, [0, 4, 5]), (5, [0, 4, 5, 6])] 148) (codeAt (bodyOf Tryz.prog 148) [1, 0, 1, 0, 0])) (kAt (cfgOf Tryz.prog pureF pureT C [(2, [0, 4, 5]), (5, [0, 4, 5, 6])] 148) (bodyOf Tryz.prog 148) [1, 0, 1, 0] (endK Tryz.prog 148 K)) [(0, (.slice cs0a cs0l cs0c)), (4, (.int .i64 t4)), (5, (.int .i64 u5))] m := by
  refine loop_rule (σ := γ × Int × Int) (fun s => F148_1 cs0a cs0l cs0c s.2.1 s.2.2) (fun s m => J s.1 s.2.1 s.2.2 m) (fun s => μ s.1 s.2.1 s.2.2) (g, t4, u5) rfl hJ ?_
  intro s m hJ
  have h := hs s.1 s.2.1 s.2.2 m hJ
  refine e148_1 ?_
  refine Eq.mp (congrArg (fun B => s148_1 C cs0a cs0l cs0c s.2.1 s.2.2 (andThenE B (kAt (cfgOf Tryz.prog pureF pureT C [(2, [0, 4, 5]), (5, [0, 4, 5, 6])] 148) (bodyOf Tryz.prog 148) [1, 0, 1, 0] (endK Tryz.prog 148 K))) m) ?_) h
  funext fr m'
  apply propext
  constructor
  · rintro ⟨g', t4', u5', h1, h2, h3⟩
    exact ⟨(g', t4', u5'), h1, h2, h3⟩
  · rintro ⟨⟨g', t4', u5'⟩, h1, h2, h3⟩
    exact ⟨g', t4', u5', h1, h2, h3⟩
def F148_2 (cs0a : Option Addr) (cs0l cs0c : Nat) (t4 : Int) (u5 : Int) (i6 : Int) : Fr := [(0, (.slice cs0a cs0l cs0c)), (4, (.int .i64 t4)), (5, (.int .i64 u5)), (6, (.int .i64 i6))]
theorem loop148_2 {C : CallT} {γ : Type} {cs0a : Option Addr} {cs0l cs0c : Nat} {u5 : Int} {Kt : Exit → Fr → Mem → Prop} {m : Mem} (J : γ → Int → Int → Mem → Prop) (μ : γ → Int → Int → Nat) (g : γ) {t4 : Int} {i6 : Int} (hJ : J g t4 i6 m)
    (hs : ∀ g t4 i6 m, J g t4 i6 m → s148_2 C cs0a cs0l cs0c t4 u5 i6 (andThenE (fun fr m' => ∃ g' t4' i6', fr = F148_2 cs0a cs0l cs0c t4' u5 i6' ∧ J g' t4' i6' m' ∧ μ g' t4' i6' < μ g t4 i6) (kAt (cfgOf Tryz.prog pureF pureT C [(2, [0, 4, 5]), (5, [0, 4, 5, 6])] 148) (codeAt (bodyOf Tryz.prog 148) [1, 0, 1, 0, 0]) [1, 0, 0, 1, 0] (trimK [0, 4, 5] Kt))) m) :
    loopE [0, 4, 5, 6] (evCode (cfgOf Tryz.prog pureF pureT C [(2, [0, 4, 5]), (5, [0, 4, 5, 6])] 148) (codeAt (codeAt (bodyOf Tryz.prog 148) [1, 0, 1, 0, 0]) [1, 0, 0, 1, 0, 0])) (kAt (cfgOf Tryz.prog pureF pureT C [(2, [0, 4, 5]), (5, [0, 4, 5, 6])] 148) (codeAt (bodyOf Tryz.prog 148) [1, 0, 1, 0, 0]) [1, 0, 0, 1, 0] (trimK [0, 4, 5] Kt)) [(0, (.slice cs0a cs0l cs0c)), (4, (.int .i64 t4)), (5, (.int .i64 u5)), (6, (.int .i64 i6))] m := by
  refine loop_rule (σ := γ × Int × Int) (fun s => F148_2 cs0a cs0l cs0c s.2.1 u5 s.2.2) (fun s m => J s.1 s.2.1 s.2.2 m) (fun s => μ s.1 s.2.1 s.2.2) (g, t4, i6) rfl hJ ?_
  intro s m hJ
  have h := hs s.1 s.2.1 s.2.2 m hJ
  refine e148_2 ?_
  refine Eq.mp (congrArg (fun B => s148_2 C cs0a cs0l cs0c s.2.1 u5 s.2.2 (andThenE B (kAt (cfgOf Tryz.prog pureF pureT C [(2, [0, 4, 5]), (5, [0, 4, 5, 6])] 148) (codeAt (bodyOf Tryz.prog 148) [1, 0, 1, 0, 0]) [1, 0, 0, 1, 0] (trimK [0, 4, 5] Kt))) m) ?_) h
  funext fr m'
  apply propext
  constructor
  · rintro ⟨g', t4', i6', h1, h2, h3⟩
    exact ⟨(g', t4', i6'), h1, h2, h3⟩
  · rintro ⟨⟨g', t4', i6'⟩, h1, h2, h3⟩
    exact ⟨g', t4', i6', h1, h2, h3⟩

def s149 (C : CallT) (flat0a : Option Addr) (flat0l flat0c : Nat) (del1 : Bool) (c2a : Option Addr) (c2l c2c : Nat) (K : Value → Mem → Prop) (m : Mem) : Prop :=
  ifB del1
  (allocB m (Blk.ofList [(.int .i64 13)]) fun b_1 m_2 =>
  rdRow m_2 (some ⟨b_1, 0, none⟩) (1 * 1) fun r_5 =>
  appendC m_2 1 8 [(.int .i64 0)] flat0a flat0l flat0c 1 r_5 fun a_3 c_3 m_4 =>
  rdRow m_4 c2a (c2l * 1) fun r_8 =>
  appendC m_4 1 8 [(.int .i64 0)] a_3 (flat0l + 1) c_3 c2l r_8 fun a_6 c_6 m_7 =>
  allocB m_7 (Blk.ofList [(.int .i64 0)]) fun b_9 m_10 =>
  rdRow m_10 (some ⟨b_9, 0, none⟩) (1 * 1) fun r_13 =>
  appendC m_10 1 8 [(.int .i64 0)] a_6 ((flat0l + 1) + c2l) c_6 1 r_13 fun a_11 c_11 m_12 =>
  K (.slice a_11 (((flat0l + 1) + c2l) + 1) c_11) m_12)
  (rdRow m c2a (c2l * 1) fun r_16 =>
  appendC m 1 8 [(.int .i64 0)] flat0a flat0l flat0c c2l r_16 fun a_14 c_14 m_15 =>
  allocB m_15 (Blk.ofList [(.int .i64 0)]) fun b_17 m_18 =>
  rdRow m_18 (some ⟨b_17, 0, none⟩) (1 * 1) fun r_21 =>
  appendC m_18 1 8 [(.int .i64 0)] a_14 (flat0l + c2l) c_14 1 r_21 fun a_19 c_19 m_20 =>
  K (.slice a_19 ((flat0l + c2l) + 1) c_19) m_20)
theorem e149 (C : CallT) (flat0a : Option Addr) (flat0l flat0c : Nat) (del1 : Bool) (c2a : Option Addr) (c2l c2c : Nat) (K : Value → Mem → Prop) (m : Mem) : evFn Tryz.prog pureF pureT C [] 149 [(.slice flat0a flat0l flat0c), (.bool del1), (.slice c2a c2l c2c)] K m = s149 C flat0a flat0l flat0c del1 c2a c2l c2c K m := by kernel_rfl
theorem call149 {W0 : World} {flat0a : Option Addr} {flat0l flat0c : Nat} {del1 : Bool} {c2a : Option Addr} {c2l c2c : Nat} {K : Value → Mem → Prop} {m : Mem} (h : s149 (callOK Tryz.prog W0) flat0a flat0l flat0c del1 c2a c2l c2c K m) : callOK Tryz.prog W0 149 [(.slice flat0a flat0l flat0c), (.bool del1), (.slice c2a c2l c2c)] K m :=
  evFn_sound pureOk mixedP (fun w => Tryz.call149 _ w) ((e149 (callOK Tryz.prog W0) flat0a flat0l flat0c del1 c2a c2l c2c K m).symm ▸ h)

def s150 (C : CallT) (row0a : Option Addr) (row0l row0c : Nat) (l1 : Int) (K : Value → Mem → Prop) (m : Mem) : Prop :=
  loopE [0, 1, 4, 5] (evCode (cfgOf Tryz.prog pureF pureT C [(2, [0, 1, 4, 5])] 150) (codeAt (bodyOf Tryz.prog 150) [1, 0, 1, 0, 0])) (kAt (cfgOf Tryz.prog pureF pureT C [(2, [0, 1, 4, 5])] 150) (bodyOf Tryz.prog 150) [1, 0, 1, 0] (endK Tryz.prog 150 K)) [(0, (.slice row0a row0l row0c)), (1, (.int .i64 l1)), (4, (.bool false)), (5, (.int .i64 0))] m
theorem e150 (C : CallT) (row0a : Option Addr) (row0l row0c : Nat) (l1 : Int) (K : Value → Mem → Prop) (m : Mem) : evFn Tryz.prog pureF pureT C [(2, [0, 1, 4, 5])] 150 [(.slice row0a row0l row0c), (.int .i64 l1)] K m = s150 C row0a row0l row0c l1 K m := by kernel_rfl
theorem call150 {W0 : World} {row0a : Option Addr} {row0l row0c : Nat} {l1 : Int} {K : Value → Mem → Prop} {m : Mem} (h : s150 (callOK Tryz.prog W0) row0a row0l row0c l1 K m) : callOK Tryz.prog W0 150 [(.slice row0a row0l row0c), (.int .i64 l1)] K m :=
  evFn_sound pureOk mixedP (fun w => Tryz.call150 _ w) ((e150 (callOK Tryz.prog W0) row0a row0l row0c l1 K m).symm ▸ h)
def s150_1 (C : CallT) (row0a : Option Addr) (row0l row0c : Nat) (l1 : Int) (t4 : Bool) (i5 : Int) (Kt : Exit → Fr → Mem → Prop) (m : Mem) : Prop :=
  ifB (decide (i5 < ((row0l : Nat) : Int)))
  (ckP row0a fun b_1 o_1 =>
  ckI i5 row0l fun j_2 =>
  ldInt .i64 m b_1 (o_1 + j_2) fun x_3 =>
  ifB (x_3 == l1)
  (Kt .ret [(0, (.slice row0a row0l row0c)), (1, (.int .i64 l1)), (4, (.bool true)), (5, (.int .i64 i5))] m)
  (Kt .normal [(0, (.slice row0a row0l row0c)), (1, (.int .i64 l1)), (4, (.bool t4)), (5, (.int .i64 (IntKind.wrap .i64 (i5 + 1))))] m))
  (Kt (.exit 0) [(0, (.slice row0a row0l row0c)), (1, (.int .i64 l1)), (4, (.bool t4)), (5, (.int .i64 i5))] m)
theorem e150_1 {C : CallT} {row0a : Option Addr} {row0l row0c : Nat} {l1 : Int} {t4 : Bool} {i5 : Int} {Kt : Exit → Fr → Mem → Prop} {m : Mem} (h : s150_1 C row0a row0l row0c l1 t4 i5 Kt m) : evCode (cfgOf Tryz.prog pureF pureT C [(2, [0, 1, 4, 5])] 150) (codeAt (bodyOf Tryz.prog 150) [1, 0, 1, 0, 0]) (trimK [0, 1, 4, 5] Kt) [(0, (.slice row0a row0l row0c)), (1, (.int .i64 l1)), (4, (.bool t4)), (5, (.int .i64 i5))] m :=
  (show _ = _ by kernel_rfl : evCode (cfgOf Tryz.prog pureF pureT C [(2, [0, 1, 4, 5])] 150) (codeAt (bodyOf Tryz.prog 150) [1, 0, 1, 0, 0]) (trimK [0, 1, 4, 5] Kt) [(0, (.slice row0a row0l row0c)), (1, (.int .i64 l1)), (4, (.bool t4)), (5, (.int .i64 i5))] m = s150_1 C row0a row0l row0c l1 t4 i5 Kt m).symm ▸ h
def s150_1r (C : CallT) (row0a : Option Addr) (row0l row0c : Nat) (l1 : Int) (t4 : Bool) (i5 : Int) (K : Value → Mem → Prop) (m : Mem) : Prop :=
  K (.bool t4) m
theorem e150_1r {C : CallT} {kn : Fr → Mem → Prop} {row0a : Option Addr} {row0l row0c : Nat} {l1 : Int} {t4 : Bool} {i5 : Int} {K : Value → Mem → Prop} {m : Mem} : (andThenE kn (kAt (cfgOf Tryz.prog pureF pureT C [(2, [0, 1, 4, 5])] 150) (bodyOf Tryz.prog 150) [1, 0, 1, 0] (endK Tryz.prog 150 K)) .ret [(0, (.slice row0a row0l row0c)), (1, (.int .i64 l1)), (4, (.bool t4)), (5, (.int .i64 i5))] m) = s150_1r C row0a row0l row0c l1 t4 i5 K m := by kernel_rfl
def s150_1x0 (C : CallT) (row0a : Option Addr) (row0l row0c : Nat) (l1 : Int) (t4 : Bool) (i5 : Int) (K : Value → Mem → Prop) (m : Mem) : Prop :=
  K (.bool false) m
theorem e150_1x0 {C : CallT} {kn : Fr → Mem → Prop} {row0a : Option Addr} {row0l row0c : Nat} {l1 : Int} {t4 : Bool} {i5 : Int} {K : Value → Mem → Prop} {m : Mem} : (andThenE kn (kAt (cfgOf Tryz.prog pureF pureT C [(2, [0, 1, 4, 5])] 150) (bodyOf Tryz.prog 150) [1, 0, 1, 0] (endK Tryz.prog 150 K)) (.exit 0) [(0, (.slice row0a row0l row0c)), (1, (.int .i64 l1)), (4, (.bool t4)), (5, (.int .i64 i5))] m) = s150_1x0 C row0a row0l row0c l1 t4 i5 K m := by kernel_rfl
def F150_1 (row0a : Option Addr) (row0l row0c : Nat) (l1 : Int) (t4 : Bool) (i5 : Int) : Fr := [(0, (.slice row0a row0l row0c)), (1, (.int .i64 l1)), (4, (.bool t4)), (5, (.int .i64 i5))]
theorem loop150_1 {C : CallT} {γ : Type} {row0a : Option Addr} {row0l row0c : Nat} {l1 : Int} {K : Value → Mem → Prop} {m : Mem} (J : γ → Bool → Int → Mem → Prop) (μ : γ → Bool → Int → Nat) (g : γ) {t4 : Bool} {i5 : Int} (hJ : J g t4 i5 m)
    (hs : ∀ g t4 i5 m, J g t4 i5 m → s150_1 C row0a row0l row0c l1 t4 i5 (andThenE (fun fr m' => ∃ g' t4' i5', fr = F150_1 row0a row0l row0c l1 t4' i5' ∧ J g' t4' i5' m' ∧ μ g' t4' i5' < μ g t4 i5) (kAt (cfgOf Tryz.prog pureF pureT C [(2, [0, 1, 4, 5])] 150) (bodyOf Tryz.prog 150) [1, 0, 1, 0] (endK Tryz.prog 150 K))) m) :
    loopE [0, 1, 4, 5] (evCode (cfgOf Tryz.prog pureF pureT C [(2, [0, 1, 4, 5])] 150) (codeAt (bodyOf Tryz.prog 150) [1, 0, 1, 0, 0])) (kAt (cfgOf Tryz.prog pureF pureT C [(2, [0, 1, 4, 5])] 150) (bodyOf Tryz.prog 150) [1, 0, 1, 0] (endK Tryz.prog 150 K)) [(0, (.slice row0a row0l row0c)), (1, (.int .i64 l1)), (4, (.bool t4)), (5, (.int .i64 i5))] m := by
  refine loop_rule (σ := γ × Bool × Int) (fun s => F150_1 row0a row0l row0c l1 s.2.1 s.2.2) (fun s m => J s.1 s.2.1 s.2.2 m) (fun s => μ s.1 s.2.1 s.2.2) (g, t4, i5) rfl hJ ?_
  intro s m hJ
  have h := hs s.1 s.2.1 s.2.2 m hJ
  refine e150_1 ?_
  refine Eq.mp (congrArg (fun B => s150_1 C row0a row0l row0c l1 s.2.1 s.2.2 (andThenE B (kAt (cfgOf Tryz.prog pureF pureT C [(2, [0, 1, 4, 5])] 150) (bodyOf Tryz.prog 150) [1, 0, 1, 0] (endK Tryz.prog 150 K))) m) ?_) h
  funext fr m'
  apply propext
  constructor
  · rintro ⟨g', t4', i5', h1, h2, h3⟩
    exact ⟨(g', t4', i5'), h1, h2, h3⟩
  · rintro ⟨⟨g', t4', i5'⟩, h1, h2, h3⟩
    exact ⟨g', t4', i5', h1, h2, h3⟩

def s151 (C : CallT) (cs0a : Option Addr) (cs0l cs0c : Nat) (on1a : Option Addr) (on1l on1c : Nat) (K : Value → Mem → Prop) (m : Mem) : Prop :=
  C 52 [(.slice on1a on1l on1c)] (fun rm_2 m_2 =>
  ∃ x_1a x_1l x_1c, rm_2 = (.slice x_1a x_1l x_1c) ∧
  loopE [0, 4, 5, 6, 7] (evCode (cfgOf Tryz.prog pureF pureT C [(3, [0, 4, 5, 6, 7]), (7, [0, 4, 5, 6, 7, 8, 9])] 151) (codeAt (bodyOf Tryz.prog 151) [1, 1, 0, 1, 0, 0])) (kAt (cfgOf Tryz.prog pureF pureT C [(3, [0, 4, 5, 6, 7]), (7, [0, 4, 5, 6, 7, 8, 9])] 151) (bodyOf Tryz.prog 151) [1, 1, 0, 1, 0] (endK Tryz.prog 151 K)) [(0, (.slice cs0a cs0l cs0c)), (4, (.slice none 0 0)), (5, (.bool false)), (6, (.slice x_1a x_1l x_1c)), (7, (.int .i64 0))] m_2) m
theorem e151 (C : CallT) (cs0a : Option Addr) (cs0l cs0c : Nat) (on1a : Option Addr) (on1l on1c : Nat) (K : Value → Mem → Prop) (m : Mem) : evFn Tryz.prog pureF pureT C [(3, [0, 4, 5, 6, 7]), (7, [0, 4, 5, 6, 7, 8, 9])] 151 [(.slice cs0a cs0l cs0c), (.slice on1a on1l on1c)] K m = s151 C cs0a cs0l cs0c on1a on1l on1c K m := by kernel_rfl
theorem call151 {W0 : World} {cs0a : Option Addr} {cs0l cs0c : Nat} {on1a : Option Addr} {on1l on1c : Nat} {K : Value → Mem → Prop} {m : Mem} (h : s151 (callOK Tryz.prog W0) cs0a cs0l cs0c on1a on1l on1c K m) : callOK Tryz.prog W0 151 [(.slice cs0a cs0l cs0c), (.slice on1a on1l on1c)] K m :=
  evFn_sound pureOk mixedP (fun w => Tryz.call151 _ w) ((e151 (callOK Tryz.prog W0) cs0a cs0l cs0c on1a on1l on1c K m).symm ▸ h)
def s151_1 (C : CallT) (cs0a : Option Addr) (cs0l cs0c : Nat) (t4a : Option Addr) (t4l t4c : Nat) (t5 : Bool) (out6a : Option Addr) (out6l out6c : Nat) (round7 : Int) (Kt : Exit → Fr → Mem → Prop) (m : Mem) : Prop :=
  ifB (decide (round7 ≤ 12))
  (loopE [0, 4, 5, 6, 7, 8, 9] (evCode (cfgOf Tryz.prog pureF pureT C [(3, [0, 4, 5, 6, 7]), (7, [0, 4, 5, 6, 7, 8, 9])] 151) (codeAt (codeAt (bodyOf Tryz.prog 151) [1, 1, 0, 1, 0, 0]) [1, 0, 0, 1, 0, 1, 0, 0])) (kAt (cfgOf Tryz.prog pureF pureT C [(3, [0, 4, 5, 6, 7]), (7, [0, 4, 5, 6, 7, 8, 9])] 151) (codeAt (bodyOf Tryz.prog 151) [1, 1, 0, 1, 0, 0]) [1, 0, 0, 1, 0, 1, 0] (trimK [0, 4, 5, 6, 7] Kt)) [(0, (.slice cs0a cs0l cs0c)), (4, (.slice t4a t4l t4c)), (5, (.bool t5)), (6, (.slice out6a out6l out6c)), (7, (.int .i64 round7)), (8, (.bool false)), (9, (.int .i64 0))] m)
  (Kt (.exit 0) [(0, (.slice cs0a cs0l cs0c)), (4, (.slice t4a t4l t4c)), (5, (.bool t5)), (6, (.slice out6a out6l out6c)), (7, (.int .i64 round7))] m)
theorem e151_1 {C : CallT} {cs0a : Option Addr} {cs0l cs0c : Nat} {t4a : Option Addr} {t4l t4c : Nat} {t5 : Bool} {out6a : Option Addr} {out6l out6c : Nat} {round7 : Int} {Kt : Exit → Fr → Mem → Prop} {m : Mem} (h : s151_1 C cs0a cs0l cs0c t4a t4l t4c t5 out6a out6l out6c round7 Kt m) : evCode (cfgOf Tryz.prog pureF pureT C [(3, [0, 4, 5, 6, 7]), (7, [0, 4, 5, 6, 7, 8, 9])] 151) (codeAt (bodyOf Tryz.prog 151) [1, 1, 0, 1, 0, 0]) (trimK [0, 4, 5, 6, 7] Kt) [(0, (.slice cs0a cs0l cs0c)), (4, (.slice t4a t4l t4c)), (5, (.bool t5)), (6, (.slice out6a out6l out6c)), (7, (.int .i64 round7))] m :=
  (show _ = _ by kernel_rfl : evCode (cfgOf Tryz.prog pureF pureT C [(3, [0, 4, 5, 6, 7]), (7, [0, 4, 5, 6, 7, 8, 9])] 151) (codeAt (bodyOf Tryz.prog 151) [1, 1, 0, 1, 0, 0]) (trimK [0, 4, 5, 6, 7] Kt) [(0, (.slice cs0a cs0l cs0c)), (4, (.slice t4a t4l t4c)), (5, (.bool t5)), (6, (.slice out6a out6l out6c)), (7, (.int .i64 round7))] m = s151_1 C cs0a cs0l cs0c t4a t4l t4c t5 out6a out6l out6c round7 Kt m).symm ▸ h
def s151_1r (C : CallT) (cs0a : Option Addr) (cs0l cs0c : Nat) (t4a : Option Addr) (t4l t4c : Nat) (t5 : Bool) (out6a : Option Addr) (out6l out6c : Nat) (round7 : Int) (K : Value → Mem → Prop) (m : Mem) : Prop :=
  K (.tuple #[(.slice t4a t4l t4c), (.bool t5)]) m
theorem e151_1r {C : CallT} {kn : Fr → Mem → Prop} {cs0a : Option Addr} {cs0l cs0c : Nat} {t4a : Option Addr} {t4l t4c : Nat} {t5 : Bool} {out6a : Option Addr} {out6l out6c : Nat} {round7 : Int} {K : Value → Mem → Prop} {m : Mem} : (andThenE kn (kAt (cfgOf Tryz.prog pureF pureT C [(3, [0, 4, 5, 6, 7]), (7, [0, 4, 5, 6, 7, 8, 9])] 151) (bodyOf Tryz.prog 151) [1, 1, 0, 1, 0] (endK Tryz.prog 151 K)) .ret [(0, (.slice cs0a cs0l cs0c)), (4, (.slice t4a t4l t4c)), (5, (.bool t5)), (6, (.slice out6a out6l out6c)), (7, (.int .i64 round7))] m) = s151_1r C cs0a cs0l cs0c t4a t4l t4c t5 out6a out6l out6c round7 K m := by kernel_rfl
def s151_1x0 (C : CallT) (cs0a : Option Addr) (cs0l cs0c : Nat) (t4a : Option Addr) (t4l t4c : Nat) (t5 : Bool) (out6a : Option Addr) (out6l out6c : Nat) (round7 : Int) (K : Value → Mem → Prop) (m : Mem) : Prop :=
  K (.tuple #[(.slice out6a out6l out6c), (.bool false)]) m
theorem e151_1x0 {C : CallT} {kn : Fr → Mem → Prop} {cs0a : Option Addr} {cs0l cs0c : Nat} {t4a : Option Addr} {t4l t4c : Nat} {t5 : Bool} {out6a : Option Addr} {out6l out6c : Nat} {round7 : Int} {K : Value → Mem → Prop} {m : Mem} : (andThenE kn (kAt (cfgOf Tryz.prog pureF pureT C [(3, [0, 4, 5, 6, 7]), (7, [0, 4, 5, 6, 7, 8, 9])] 151) (bodyOf Tryz.prog 151) [1, 1, 0, 1, 0] (endK Tryz.prog 151 K)) (.exit 0) [(0, (.slice cs0a cs0l cs0c)), (4, (.slice t4a t4l t4c)), (5, (.bool t5)), (6, (.slice out6a out6l out6c)), (7, (.int .i64 round7))] m) = s151_1x0 C cs0a cs0l cs0c t4a t4l t4c t5 out6a out6l out6c round7 K m := by kernel_rfl
def s151_2 (C : CallT) (cs0a : Option Addr) (cs0l cs0c : Nat) (t4a : Option Addr) (t4l t4c : Nat) (t5 : Bool) (out6a : Option Addr) (out6l out6c : Nat) (round7 : Int) (grown8 : Bool) (i9 : Int) (Kt : Exit → Fr → Mem → Prop) (m : Mem) : Prop :=
  ifB (decide (i9 < ((cs0l : Nat) : Int)))
  (ckP cs0a fun b_3 o_3 =>
  ckI i9 cs0l fun j_4 =>
  ldSl m b_3 (o_3 + j_4) fun l_5a l_5l l_5c =>
  C 156 [(.slice l_5a l_5l l_5c), (.slice out6a out6l out6c)] (fun rm_8 m_8 =>
  ∃ x_6 x_7, rm_8 = (.tuple #[(.int .i64 x_6), (.int .i64 x_7)]) ∧
  ifB (x_6 == (-1))
  (Kt .ret [(0, (.slice cs0a cs0l cs0c)), (4, (.slice out6a out6l out6c)), (5, (.bool true)), (6, (.slice out6a out6l out6c)), (7, (.int .i64 round7)), (8, (.bool grown8)), (9, (.int .i64 i9))] m_8)
  (ifB (x_6 == 0)
  (allocB m_8 (Blk.ofList [(.int .i64 x_7)]) fun b_9 m_10 =>
  rdRow m_10 (some ⟨b_9, 0, none⟩) (1 * 1) fun r_13 =>
  appendC m_10 1 8 [(.int .i64 0)] out6a out6l out6c 1 r_13 fun a_11 c_11 m_12 =>
  Kt .normal [(0, (.slice cs0a cs0l cs0c)), (4, (.slice t4a t4l t4c)), (5, (.bool t5)), (6, (.slice a_11 (out6l + 1) c_11)), (7, (.int .i64 round7)), (8, (.bool true)), (9, (.int .i64 (IntKind.wrap .i64 (i9 + 1))))] m_12)
  (Kt .normal [(0, (.slice cs0a cs0l cs0c)), (4, (.slice t4a t4l t4c)), (5, (.bool t5)), (6, (.slice out6a out6l out6c)), (7, (.int .i64 round7)), (8, (.bool grown8)), (9, (.int .i64 (IntKind.wrap .i64 (i9 + 1))))] m_8))) m)
  (Kt (.exit 2) [(0, (.slice cs0a cs0l cs0c)), (4, (.slice t4a t4l t4c)), (5, (.bool t5)), (6, (.slice out6a out6l out6c)), (7, (.int .i64 round7)), (8, (.bool grown8)), (9, (.int .i64 i9))] m)
theorem e151_2 {C : CallT} {cs0a : Option Addr} {cs0l cs0c : Nat} {t4a : Option Addr} {t4l t4c : Nat} {t5 : Bool} {out6a : Option Addr} {out6l out6c : Nat} {round7 : Int} {grown8 : Bool} {i9 : Int} {Kt : Exit → Fr → Mem → Prop} {m : Mem} (h : s151_2 C cs0a cs0l cs0c t4a t4l t4c t5 out6a out6l out6c round7 grown8 i9 Kt m) : evCode (cfgOf Tryz.prog pureF pureT C [(3, [0, 4, 5, 6, 7]), (7, [0, 4, 5, 6, 7, 8, 9])] 151) (codeAt (codeAt (bodyOf Tryz.prog 151) [1, 1, 0, 1, 0, 0]) [1, 0, 0, 1, 0, 1, 0, 0]) (trimK [0, 4, 5, 6, 7, 8, 9] Kt) [(0, (.slice cs0a cs0l cs0c)), (4, (.slice t4a t4l t4c)), (5, (.bool t5)), (6, (.slice out6a out6l out6c)), (7, (.int .i64 round7)), (8, (.bool grown8)), (9, (.int .i64 i9))] m :=
  (show _ = _ by kernel_rfl : evCode (cfgOf Tryz.prog pureF pureT C [(3, [0, 4, 5, 6, 7]), (7, [0, 4, 5, 6, 7, 8, 9])] 151) (codeAt (codeAt (bodyOf Tryz.prog 151) [1, 1, 0, 1, 0, 0]) [1, 0, 0, 1, 0, 1, 0, 0]) (trimK [0, 4, 5, 6, 7, 8, 9] Kt) [(0, (.slice cs0a cs0l cs0c)), (4, (.slice t4a t4l t4c)), (5, (.bool t5)), (6, (.slice out6a out6l out6c)), (7, (.int .i64 round7)), (8, (.bool grown8)), (9, (.int .i64 i9))] m = s151_2 C cs0a cs0l cs0c t4a t4l t4c t5 out6a out6l out6c round7 grown8 i9 Kt m).symm ▸ h
def s151_2r (C : CallT) (cs0a : Option Addr) (cs0l cs0c : Nat) (t4a : Option Addr) (t4l t4c : Nat) (t5 : Bool) (out6a : Option Addr) (out6l out6c : Nat) (round7 : Int) (grown8 : Bool) (i9 : Int) (Kt : Exit → Fr → Mem → Prop) (m : Mem) : Prop :=
  Kt .ret [(0, (.slice cs0a cs0l cs0c)), (4, (.slice t4a t4l t4c)), (5, (.bool t5)), (6, (.slice out6a out6l out6c)), (7, (.int .i64 round7))] m
theorem e151_2r {C : CallT} {kn : Fr → Mem → Prop} {cs0a : Option Addr} {cs0l cs0c : Nat} {t4a : Option Addr} {t4l t4c : Nat} {t5 : Bool} {out6a : Option Addr} {out6l out6c : Nat} {round7 : Int} {grown8 : Bool} {i9 : Int} {Kt : Exit → Fr → Mem → Prop} {m : Mem} : (andThenE kn (kAt (cfgOf Tryz.prog pureF pureT C [(3, [0, 4, 5, 6, 7]), (7, [0, 4, 5, 6, 7, 8, 9])] 151) (codeAt (bodyOf Tryz.prog 151) [1, 1, 0, 1, 0, 0]) [1, 0, 0, 1, 0, 1, 0] (trimK [0, 4, 5, 6, 7] Kt)) .ret [(0, (.slice cs0a cs0l cs0c)), (4, (.slice t4a t4l t4c)), (5, (.bool t5)), (6, (.slice out6a out6l out6c)), (7, (.int .i64 round7)), (8, (.bool grown8)), (9, (.int .i64 i9))] m) = s151_2r C cs0a cs0l cs0c t4a t4l t4c t5 out6a out6l out6c round7 grown8 i9 Kt m := by kernel_rfl
def s151_2x2 (C : CallT) (cs0a : Option Addr) (cs0l cs0c : Nat) (t4a : Option Addr) (t4l t4c : Nat) (t5 : Bool) (out6a : Option Addr) (out6l out6c : Nat) (round7 : Int) (grown8 : Bool) (i9 : Int) (Kt : Exit → Fr → Mem → Prop) (m : Mem) : Prop :=
  ifB (!grown8)
  (Kt .ret [(0, (.slice cs0a cs0l cs0c)), (4, (.slice out6a out6l out6c)), (5, (.bool false)), (6, (.slice out6a out6l out6c)), (7, (.int .i64 round7))] m)
  (Kt .normal [(0, (.slice cs0a cs0l cs0c)), (4, (.slice t4a t4l t4c)), (5, (.bool t5)), (6, (.slice out6a out6l out6c)), (7, (.int .i64 (IntKind.wrap .i64 (round7 + 1))))] m)
theorem e151_2x2 {C : CallT} {kn : Fr → Mem → Prop} {cs0a : Option Addr} {cs0l cs0c : Nat} {t4a : Option Addr} {t4l t4c : Nat} {t5 : Bool} {out6a : Option Addr} {out6l out6c : Nat} {round7 : Int} {grown8 : Bool} {i9 : Int} {Kt : Exit → Fr → Mem → Prop} {m : Mem} : (andThenE kn (kAt (cfgOf Tryz.prog pureF pureT C [(3, [0, 4, 5, 6, 7]), (7, [0, 4, 5, 6, 7, 8, 9])] 151) (codeAt (bodyOf Tryz.prog 151) [1, 1, 0, 1, 0, 0]) [1, 0, 0, 1, 0, 1, 0] (trimK [0, 4, 5, 6, 7] Kt)) (.exit 2) [(0, (.slice cs0a cs0l cs0c)), (4, (.slice t4a t4l t4c)), (5, (.bool t5)), (6, (.slice out6a out6l out6c)), (7, (.int .i64 round7)), (8, (.bool grown8)), (9, (.int .i64 i9))] m) = s151_2x2 C cs0a cs0l cs0c t4a t4l t4c t5 out6a out6l out6c round7 grown8 i9 Kt m := by kernel_rfl
def F151_1 (cs0a : Option Addr) (cs0l cs0c : Nat) (t4a : Option Addr) (t4l t4c : Nat) (t5 : Bool) (out6a : Option Addr) (out6l out6c : Nat) (round7 : Int) : Fr := [(0, (.slice cs0a cs0l cs0c)), (4, (.slice t4a t4l t4c)), (5, (.bool t5)), (6, (.slice out6a out6l out6c)), (7, (.int .i64 round7))]
theorem loop151_1 {C : CallT} {γ : Type} {cs0a : Option Addr} {cs0l cs0c : Nat} {K : Value → Mem → Prop} {m : Mem} (J : γ → Option Addr → Nat → Nat → Bool → Option Addr → Nat → Nat → Int → Mem → Prop) (μ : γ → Option Addr → Nat → Nat → Bool → Option Addr → Nat → Nat → Int → Nat) (g : γ) {t4a : Option Addr} {t4l t4c : Nat} {t5 : Bool} {out6a : Option Addr} {out6l out6c : Nat} {round7 : Int} (hJ : J g t4a t4l t4c t5 out6a out6l out6c round7 m)
    (hs : ∀ g t4a t4l t4c t5 out6a out6l out6c round7 m, J g t4a t4l t4c t5 out6a out6l out6c round7 m → s151_1 C cs0a cs0l cs0c t4a t4l t4c t5 out6a out6l out6c round7 (andThenE (fun fr m' => ∃ g' t4a' t4l' t4c' t5' out6a' out6l' out6c' round7', fr = F151_1 cs0a cs0l cs0c t4a' t4l' t4c' t5' out6a' out6l' out6c' round7' ∧ J g' t4a' t4l' t4c' t5' out6a' out6l' out6c' round7' m' ∧ μ g' t4a' t4l' t4c' t5' out6a' out6l' out6c' round7' < μ g t4a t4l t4c t5 out6a out6l out6c round7) (kAt (cfgOf Tryz.prog pureF pureT C [(3, [0, 4, 5, 6, 7]), (7, [0, 4, 5, 6, 7, 8, 9])] 151) (bodyOf Tryz.prog 151) [1, 1, 0, 1, 0] (endK Tryz.prog 151 K))) m) :
    loopE [0, 4, 5, 6, 7] (evCode (cfgOf Tryz.prog pureF pureT C [(3, [0, 4, 5, 6, 7]), (7, [0, 4, 5, 6, 7, 8, 9])] 151) (codeAt (bodyOf Tryz.prog 151) [1, 1, 0, 1, 0, 0])) (kAt (cfgOf Tryz.prog pureF pureT C [(3, [0, 4, 5, 6, 7]), (7, [0, 4, 5, 6, 7, 8, 9])] 151) (bodyOf Tryz.prog 151) [1, 1, 0, 1, 0] (endK Tryz.prog 151 K)) [(0, (.slice cs0a cs0l cs0c)), (4, (.slice t4a t4l t4c)), (5, (.bool t5)), (6, (.slice out6a out6l out6c)), (7, (.int .i64 round7))] m := by
  refine loop_rule (σ := γ × Option Addr × Nat × Nat × Bool × Option Addr × Nat × Nat × Int) (fun s => F151_1 cs0a cs0l cs0c s.2.1 s.2.2.1 s.2.2.2.1 s.2.2.2.2.1 s.2.2.2.2.2.1 s.2.2.2.2.2.2.1 s.2.2.2.2.2.2.2.1 s.2.2.2.2.2.2.2.2) (fun s m => J s.1 s.2.1 s.2.2.1 s.2.2.2.1 s.2.2.2.2.1 s.2.2.2.2.2.1 s.2.2.2.2.2.2.1 s.2.2.2.2.2.2.2.1 s.2.2.2.2.2.2.2.2 m) (fun s => μ s.1 s.2.1 s.2.2.1 s.2.2.2.1 s.2.2.2.2.1 s.2.2.2.2.2.1 s.2.2.2.2.2.2.1 s.2.2.2.2.2.2.2.1 s.2.2.2.2.2.2.2.2) (g, t4a, t4l, t4c, t5, out6a, out6l, out6c, round7) rfl hJ ?_
  intro s m hJ
  have h := hs s.1 s.2.1 s.2.2.1 s.2.2.2.1 s.2.2.2.2.1 s.2.2.2.2.2.1 s.2.2.2.2.2.2.1 s.2.2.2.2.2.2.2.1 s.2.2.2.2.2.2.2.2 m hJ
  refine e151_1 ?_
  refine Eq.mp (congrArg (fun B => s151_1 C cs0a cs0l cs0c s.2.1 s.2.2.1 s.2.2.2.1 s.2.2.2.2.1 s.2.2.2.2.2.1 s.2.2.2.2.2.2.1 s.2.2.2.2.2.2.2.1 s.2.2.2.2.2.2.2.2 (andThenE B (kAt (cfgOf Tryz.prog pureF pureT C [(3, [0, 4, 5, 6, 7]), (7, [0, 4, 5, 6, 7, 8, 9])] 151) (bodyOf Tryz.prog 151) [1, 1, 0, 1, 0] (endK Tryz.prog 151 K))) m) ?_) h
  funext fr m'
  apply propext
  constructor
  · rintro ⟨g', t4a', t4l', t4c', t5', out6a', out6l', out6c', round7', h1, h2, h3⟩
    exact ⟨(g', t4a', t4l', t4c', t5', out6a', out6l', out6c', round7'), h1, h2, h3⟩
  · rintro ⟨⟨g', t4a', t4l', t4c', t5', out6a', out6l', out6c', round7'⟩, h1, h2, h3⟩
    exact ⟨g', t4a', t4l', t4c', t5', out6a', out6l', out6c', round7', h1, h2, h3⟩
def F151_2 (cs0a : Option Addr) (cs0l cs0c : Nat) (t4a : Option Addr) (t4l t4c : Nat) (t5 : Bool) (out6a : Option Addr) (out6l out6c : Nat) (round7 : Int) (grown8 : Bool) (i9 : Int) : Fr := [(0, (.slice cs0a cs0l cs0c)), (4, (.slice t4a t4l t4c)), (5, (.bool t5)), (6, (.slice out6a out6l out6c)), (7, (.int .i64 round7)), (8, (.bool grown8)), (9, (.int .i64 i9))]
theorem loop151_2 {C : CallT} {γ : Type} {cs0a : Option Addr} {cs0l cs0c : Nat} {round7 : Int} {Kt : Exit → Fr → Mem → Prop} {m : Mem} (J : γ → Option Addr → Nat → Nat → Bool → Option Addr → Nat → Nat → Bool → Int → Mem → Prop) (μ : γ → Option Addr → Nat → Nat → Bool → Option Addr → Nat → Nat → Bool → Int → Nat) (g : γ) {t4a : Option Addr} {t4l t4c : Nat} {t5 : Bool} {out6a : Option Addr} {out6l out6c : Nat} {grown8 : Bool} {i9 : Int} (hJ : J g t4a t4l t4c t5 out6a out6l out6c grown8 i9 m)
    (hs : ∀ g t4a t4l t4c t5 out6a out6l out6c grown8 i9 m, J g t4a t4l t4c t5 out6a out6l out6c grown8 i9 m → s151_2 C cs0a cs0l cs0c t4a t4l t4c t5 out6a out6l out6c round7 grown8 i9 (andThenE (fun fr m' => ∃ g' t4a' t4l' t4c' t5' out6a' out6l' out6c' grown8' i9', fr = F151_2 cs0a cs0l cs0c t4a' t4l' t4c' t5' out6a' out6l' out6c' round7 grown8' i9' ∧ J g' t4a' t4l' t4c' t5' out6a' out6l' out6c' grown8' i9' m' ∧ μ g' t4a' t4l' t4c' t5' out6a' out6l' out6c' grown8' i9' < μ g t4a t4l t4c t5 out6a out6l out6c grown8 i9) (kAt (cfgOf Tryz.prog pureF pureT C [(3, [0, 4, 5, 6, 7]), (7, [0, 4, 5, 6, 7, 8, 9])] 151) (codeAt (bodyOf Tryz.prog 151) [1, 1, 0, 1, 0, 0]) [1, 0, 0, 1, 0, 1, 0] (trimK [0, 4, 5, 6, 7] Kt))) m) :
    loopE [0, 4, 5, 6, 7, 8, 9] (evCode (cfgOf Tryz.prog pureF pureT C [(3, [0, 4, 5, 6, 7]), (7, [0, 4, 5, 6, 7, 8, 9])] 151) (codeAt (codeAt (bodyOf Tryz.prog 151) [1, 1, 0, 1, 0, 0]) [1, 0, 0, 1, 0, 1, 0, 0])) (kAt (cfgOf Tryz.prog pureF pureT C [(3, [0, 4, 5, 6, 7]), (7, [0, 4, 5, 6, 7, 8, 9])] 151) (codeAt (bodyOf Tryz.prog 151) [1, 1, 0, 1, 0, 0]) [1, 0, 0, 1, 0, 1, 0] (trimK [0, 4, 5, 6, 7] Kt)) [(0, (.slice cs0a cs0l cs0c)), (4, (.slice t4a t4l t4c)), (5, (.bool t5)), (6, (.slice out6a out6l out6c)), (7, (.int .i64 round7)), (8, (.bool grown8)), (9, (.int .i64 i9))] m := by
  refine loop_rule (σ := γ × Option Addr × Nat × Nat × Bool × Option Addr × Nat × Nat × Bool × Int) (fun s => F151_2 cs0a cs0l cs0c s.2.1 s.2.2.1 s.2.2.2.1 s.2.2.2.2.1 s.2.2.2.2.2.1 s.2.2.2.2.2.2.1 s.2.2.2.2.2.2.2.1 round7 s.2.2.2.2.2.2.2.2.1 s.2.2.2.2.2.2.2.2.2) (fun s m => J s.1 s.2.1 s.2.2.1 s.2.2.2.1 s.2.2.2.2.1 s.2.2.2.2.2.1 s.2.2.2.2.2.2.1 s.2.2.2.2.2.2.2.1 s.2.2.2.2.2.2.2.2.1 s.2.2.2.2.2.2.2.2.2 m) (fun s => μ s.1 s.2.1 s.2.2.1 s.2.2.2.1 s.2.2.2.2.1 s.2.2.2.2.2.1 s.2.2.2.2.2.2.1 s.2.2.2.2.2.2.2.1 s.2.2.2.2.2.2.2.2.1 s.2.2.2.2.2.2.2.2.2) (g, t4a, t4l, t4c, t5, out6a, out6l, out6c, grown8, i9) rfl hJ ?_
  intro s m hJ
  have h := hs s.1 s.2.1 s.2.2.1 s.2.2.2.1 s.2.2.2.2.1 s.2.2.2.2.2.1 s.2.2.2.2.2.2.1 s.2.2.2.2.2.2.2.1 s.2.2.2.2.2.2.2.2.1 s.2.2.2.2.2.2.2.2.2 m hJ
  refine e151_2 ?_
  refine Eq.mp (congrArg (fun B => s151_2 C cs0a cs0l cs0c s.2.1 s.2.2.1 s.2.2.2.1 s.2.2.2.2.1 s.2.2.2.2.2.1 s.2.2.2.2.2.2.1 s.2.2.2.2.2.2.2.1 round7 s.2.2.2.2.2.2.2.2.1 s.2.2.2.2.2.2.2.2.2 (andThenE B (kAt (cfgOf Tryz.prog pureF pureT C [(3, [0, 4, 5, 6, 7]), (7, [0, 4, 5, 6, 7, 8, 9])] 151) (codeAt (bodyOf Tryz.prog 151) [1, 1, 0, 1, 0, 0]) [1, 0, 0, 1, 0, 1, 0] (trimK [0, 4, 5, 6, 7] Kt))) m) ?_) h
  funext fr m'
  apply propext
  constructor
  · rintro ⟨g', t4a', t4l', t4c', t5', out6a', out6l', out6c', grown8', i9', h1, h2, h3⟩
    exact ⟨(g', t4a', t4l', t4c', t5', out6a', out6l', out6c', grown8', i9'), h1, h2, h3⟩
  · rintro ⟨⟨g', t4a', t4l', t4c', t5', out6a', out6l', out6c', grown8', i9'⟩, h1, h2, h3⟩
    exact ⟨g', t4a', t4l', t4c', t5', out6a', out6l', out6c', grown8', i9', h1, h2, h3⟩

def s152 (C : CallT) (t0 : Nat) (v1 : Int) (K : Value → Mem → Prop) (m : Mem) : Prop :=
  ifB (!(goIsVar v1))
  (K (.int .i64 (-1)) m)
  (ckI v1 13 fun j_1 =>
  ldInt .i64 m t0 (54 + j_1) fun x_2 =>
  K (.int .i64 x_2) m)
theorem e152 (C : CallT) (t0 : Nat) (v1 : Int) (K : Value → Mem → Prop) (m : Mem) : evFn Tryz.prog pureF pureT C [] 152 [(ptr t0 0), (.int .i64 v1)] K m = s152 C t0 v1 K m := by kernel_rfl
theorem call152 {W0 : World} {t0 : Nat} {v1 : Int} {K : Value → Mem → Prop} {m : Mem} (h : s152 (callOK Tryz.prog W0) t0 v1 K m) : callOK Tryz.prog W0 152 [(ptr t0 0), (.int .i64 v1)] K m :=
  evFn_sound pureOk mixedP (fun w => Tryz.call152 _ w) ((e152 (callOK Tryz.prog W0) t0 v1 K m).symm ▸ h)

def s153 (C : CallT) (a0 : Nat) (l1 : Int) (K : Value → Mem → Prop) (m : Mem) : Prop :=
  ifB (decide (l1 > 0))
  (ldInt .u16 m a0 3 fun x_1 =>
  K (.bool ((bAnd .u16 x_1 (goBit16 (goVar l1))) != 0)) m)
  (ldInt .u16 m a0 4 fun x_2 =>
  K (.bool ((bAnd .u16 x_2 (goBit16 (goVar l1))) != 0)) m)
theorem e153 (C : CallT) (a0 : Nat) (l1 : Int) (K : Value → Mem → Prop) (m : Mem) : evFn Tryz.prog pureF pureT C [] 153 [(ptr a0 0), (.int .i64 l1)] K m = s153 C a0 l1 K m := by kernel_rfl
theorem call153 {W0 : World} {a0 : Nat} {l1 : Int} {K : Value → Mem → Prop} {m : Mem} (h : s153 (callOK Tryz.prog W0) a0 l1 K m) : callOK Tryz.prog W0 153 [(ptr a0 0), (.int .i64 l1)] K m :=
  evFn_sound pureOk mixedP (fun w => Tryz.call153 _ w) ((e153 (callOK Tryz.prog W0) a0 l1 K m).symm ▸ h)

def s155 (C : CallT) (l0 : Int) (on1a : Option Addr) (on1l on1c : Nat) (K : Value → Mem → Prop) (m : Mem) : Prop :=
  loopE [0, 1, 4, 5] (evCode (cfgOf Tryz.prog pureF pureT C [(2, [0, 1, 4, 5])] 155) (codeAt (bodyOf Tryz.prog 155) [1, 0, 1, 0, 0])) (kAt (cfgOf Tryz.prog pureF pureT C [(2, [0, 1, 4, 5])] 155) (bodyOf Tryz.prog 155) [1, 0, 1, 0] (endK Tryz.prog 155 K)) [(0, (.int .i64 l0)), (1, (.slice on1a on1l on1c)), (4, (.int .i64 0)), (5, (.int .i64 0))] m
theorem e155 (C : CallT) (l0 : Int) (on1a : Option Addr) (on1l on1c : Nat) (K : Value → Mem → Prop) (m : Mem) : evFn Tryz.prog pureF pureT C [(2, [0, 1, 4, 5])] 155 [(.int .i64 l0), (.slice on1a on1l on1c)] K m = s155 C l0 on1a on1l on1c K m := by kernel_rfl
theorem call155 {W0 : World} {l0 : Int} {on1a : Option Addr} {on1l on1c : Nat} {K : Value → Mem → Prop} {m : Mem} (h : s155 (callOK Tryz.prog W0) l0 on1a on1l on1c K m) : callOK Tryz.prog W0 155 [(.int .i64 l0), (.slice on1a on1l on1c)] K m :=
  evFn_sound pureOk mixedP (fun w => Tryz.call155 _ w) ((e155 (callOK Tryz.prog W0) l0 on1a on1l on1c K m).symm ▸ h)
def s155_1 (C : CallT) (l0 : Int) (on1a : Option Addr) (on1l on1c : Nat) (t4 : Int) (i5 : Int) (Kt : Exit → Fr → Mem → Prop) (m : Mem) : Prop :=
  ifB (decide (i5 < ((on1l : Nat) : Int)))
  (ckP on1a fun b_1 o_1 =>
  ckI i5 on1l fun j_2 =>
  ldInt .i64 m b_1 (o_1 + j_2) fun x_3 =>
  ifB (x_3 == l0)
  (Kt .ret [(0, (.int .i64 l0)), (1, (.slice on1a on1l on1c)), (4, (.int .i64 1)), (5, (.int .i64 i5))] m)
  (ckP on1a fun b_4 o_4 =>
  ckI i5 on1l fun j_5 =>
  ldInt .i64 m b_4 (o_4 + j_5) fun x_6 =>
  ifB (x_6 == (IntKind.wrap .i64 (0 - l0)))
  (Kt .ret [(0, (.int .i64 l0)), (1, (.slice on1a on1l on1c)), (4, (.int .i64 (-1))), (5, (.int .i64 i5))] m)
  (Kt .normal [(0, (.int .i64 l0)), (1, (.slice on1a on1l on1c)), (4, (.int .i64 t4)), (5, (.int .i64 (IntKind.wrap .i64 (i5 + 1))))] m)))
  (Kt (.exit 0) [(0, (.int .i64 l0)), (1, (.slice on1a on1l on1c)), (4, (.int .i64 t4)), (5, (.int .i64 i5))] m)
theorem e155_1 {C : CallT} {l0 : Int} {on1a : Option Addr} {on1l on1c : Nat} {t4 : Int} {i5 : Int} {Kt : Exit → Fr → Mem → Prop} {m : Mem} (h : s155_1 C l0 on1a on1l on1c t4 i5 Kt m) : evCode (cfgOf Tryz.prog pureF pureT C [(2, [0, 1, 4, 5])] 155) (codeAt (bodyOf Tryz.prog 155) [1, 0, 1, 0, 0]) (trimK [0, 1, 4, 5] Kt) [(0, (.int .i64 l0)), (1, (.slice on1a on1l on1c)), (4, (.int .i64 t4)), (5, (.int .i64 i5))] m :=
  (show _ = _ by kernel_rfl : evCode (cfgOf Tryz.prog pureF pureT C [(2, [0, 1, 4, 5])] 155) (codeAt (bodyOf Tryz.prog 155) [1, 0, 1, 0, 0]) (trimK [0, 1, 4, 5] Kt) [(0, (.int .i64 l0)), (1, (.slice on1a on1l on1c)), (4, (.int .i64 t4)), (5, (.int .i64 i5))] m = s155_1 C l0 on1a on1l on1c t4 i5 Kt m).symm ▸ h
def s155_1r (C : CallT) (l0 : Int) (on1a : Option Addr) (on1l on1c : Nat) (t4 : Int) (i5 : Int) (K : Value → Mem → Prop) (m : Mem) : Prop :=
  K (.int .i64 t4) m
theorem e155_1r {C : CallT} {kn : Fr → Mem → Prop} {l0 : Int} {on1a : Option Addr} {on1l on1c : Nat} {t4 : Int} {i5 : Int} {K : Value → Mem → Prop} {m : Mem} : (andThenE kn (kAt (cfgOf Tryz.prog pureF pureT C [(2, [0, 1, 4, 5])] 155) (bodyOf Tryz.prog 155) [1, 0, 1, 0] (endK Tryz.prog 155 K)) .ret [(0, (.int .i64 l0)), (1, (.slice on1a on1l on1c)), (4, (.int .i64 t4)), (5, (.int .i64 i5))] m) = s155_1r C l0 on1a on1l on1c t4 i5 K m := by kernel_rfl
def s155_1x0 (C : CallT) (l0 : Int) (on1a : Option Addr) (on1l on1c : Nat) (t4 : Int) (i5 : Int) (K : Value → Mem → Prop) (m : Mem) : Prop :=
  K (.int .i64 0) m
theorem e155_1x0 {C : CallT} {kn : Fr → Mem → Prop} {l0 : Int} {on1a : Option Addr} {on1l on1c : Nat} {t4 : Int} {i5 : Int} {K : Value → Mem → Prop} {m : Mem} : (andThenE kn (kAt (cfgOf Tryz.prog pureF pureT C [(2, [0, 1, 4, 5])] 155) (bodyOf Tryz.prog 155) [1, 0, 1, 0] (endK Tryz.prog 155 K)) (.exit 0) [(0, (.int .i64 l0)), (1, (.slice on1a on1l on1c)), (4, (.int .i64 t4)), (5, (.int .i64 i5))] m) = s155_1x0 C l0 on1a on1l on1c t4 i5 K m := by kernel_rfl
def F155_1 (l0 : Int) (on1a : Option Addr) (on1l on1c : Nat) (t4 : Int) (i5 : Int) : Fr := [(0, (.int .i64 l0)), (1, (.slice on1a on1l on1c)), (4, (.int .i64 t4)), (5, (.int .i64 i5))]
theorem loop155_1 {C : CallT} {γ : Type} {l0 : Int} {on1a : Option Addr} {on1l on1c : Nat} {K : Value → Mem → Prop} {m : Mem} (J : γ → Int → Int → Mem → Prop) (μ : γ → Int → Int → Nat) (g : γ) {t4 : Int} {i5 : Int} (hJ : J g t4 i5 m)
    (hs : ∀ g t4 i5 m, J g t4 i5 m → s155_1 C l0 on1a on1l on1c t4 i5 (andThenE (fun fr m' => ∃ g' t4' i5', fr = F155_1 l0 on1a on1l on1c t4' i5' ∧ J g' t4' i5' m' ∧ μ g' t4' i5' < μ g t4 i5) (kAt (cfgOf Tryz.prog pureF pureT C [(2, [0, 1, 4, 5])] 155) (bodyOf Tryz.prog 155) [1, 0, 1, 0] (endK Tryz.prog 155 K))) m) :
    loopE [0, 1, 4, 5] (evCode (cfgOf Tryz.prog pureF pureT C [(2, [0, 1, 4, 5])] 155) (codeAt (bodyOf Tryz.prog 155) [1, 0, 1, 0, 0])) (kAt (cfgOf Tryz.prog pureF pureT C [(2, [0, 1, 4, 5])] 155) (bodyOf Tryz.prog 155) [1, 0, 1, 0] (endK Tryz.prog 155 K)) [(0, (.int .i64 l0)), (1, (.slice on1a on1l on1c)), (4, (.int .i64 t4)), (5, (.int .i64 i5))] m := by
  refine loop_rule (σ := γ × Int × Int) (fun s => F155_1 l0 on1a on1l on1c s.2.1 s.2.2) (fun s m => J s.1 s.2.1 s.2.2 m) (fun s => μ s.1 s.2.1 s.2.2) (g, t4, i5) rfl hJ ?_
  intro s m hJ
  have h := hs s.1 s.2.1 s.2.2 m hJ
  refine e155_1 ?_
  refine Eq.mp (congrArg (fun B => s155_1 C l0 on1a on1l on1c s.2.1 s.2.2 (andThenE B (kAt (cfgOf Tryz.prog pureF pureT C [(2, [0, 1, 4, 5])] 155) (bodyOf Tryz.prog 155) [1, 0, 1, 0] (endK Tryz.prog 155 K))) m) ?_) h
  funext fr m'
  apply propext
  constructor
  · rintro ⟨g', t4', i5', h1, h2, h3⟩
    exact ⟨(g', t4', i5'), h1, h2, h3⟩
  · rintro ⟨⟨g', t4', i5'⟩, h1, h2, h3⟩
    exact ⟨g', t4', i5', h1, h2, h3⟩

def s156 (C : CallT) (c0a : Option Addr) (c0l c0c : Nat) (on1a : Option Addr) (on1l on1c : Nat) (K : Value → Mem → Prop) (m : Mem) : Prop :=
  loopE [0, 1, 4, 5, 6, 7, 8] (evCode (cfgOf Tryz.prog pureF pureT C [(4, [0, 1, 4, 5, 6, 7, 8])] 156) (codeAt (bodyOf Tryz.prog 156) [1, 1, 1, 0, 1, 0, 0])) (kAt (cfgOf Tryz.prog pureF pureT C [(4, [0, 1, 4, 5, 6, 7, 8])] 156) (bodyOf Tryz.prog 156) [1, 1, 1, 0, 1, 0] (endK Tryz.prog 156 K)) [(0, (.slice c0a c0l c0c)), (1, (.slice on1a on1l on1c)), (4, (.int .i64 0)), (5, (.int .i64 0)), (6, (.int .i64 0)), (7, (.int .i64 0)), (8, (.int .i64 0))] m
theorem e156 (C : CallT) (c0a : Option Addr) (c0l c0c : Nat) (on1a : Option Addr) (on1l on1c : Nat) (K : Value → Mem → Prop) (m : Mem) : evFn Tryz.prog pureF pureT C [(4, [0, 1, 4, 5, 6, 7, 8])] 156 [(.slice c0a c0l c0c), (.slice on1a on1l on1c)] K m = s156 C c0a c0l c0c on1a on1l on1c K m := by kernel_rfl
theorem call156 {W0 : World} {c0a : Option Addr} {c0l c0c : Nat} {on1a : Option Addr} {on1l on1c : Nat} {K : Value → Mem → Prop} {m : Mem} (h : s156 (callOK Tryz.prog W0) c0a c0l c0c on1a on1l on1c K m) : callOK Tryz.prog W0 156 [(.slice c0a c0l c0c), (.slice on1a on1l on1c)] K m :=
  evFn_sound pureOk mixedP (fun w => Tryz.call156 _ w) ((e156 (callOK Tryz.prog W0) c0a c0l c0c on1a on1l on1c K m).symm ▸ h)
def s156_1 (C : CallT) (c0a : Option Addr) (c0l c0c : Nat) (on1a : Option Addr) (on1l on1c : Nat) (t4 : Int) (t5 : Int) (open6 : Int) (unit7 : Int) (i8 : Int) (Kt : Exit → Fr → Mem → Prop) (m : Mem) : Prop :=
  ifB (decide (i8 < ((c0l : Nat) : Int)))
  (ckP c0a fun b_1 o_1 =>
  ckI i8 c0l fun j_2 =>
  ldInt .i64 m b_1 (o_1 + j_2) fun x_3 =>
  C 155 [(.int .i64 x_3), (.slice on1a on1l on1c)] (fun rm_5 m_5 =>
  ∃ x_4, rm_5 = (.int .i64 x_4) ∧
  ifB (x_4 == 1)
  (Kt .ret [(0, (.slice c0a c0l c0c)), (1, (.slice on1a on1l on1c)), (4, (.int .i64 1)), (5, (.int .i64 0)), (6, (.int .i64 open6)), (7, (.int .i64 unit7)), (8, (.int .i64 i8))] m_5)
  (ifB (x_4 == 0)
  (ckP c0a fun b_6 o_6 =>
  ckI i8 c0l fun j_7 =>
  ldInt .i64 m_5 b_6 (o_6 + j_7) fun x_8 =>
  Kt .normal [(0, (.slice c0a c0l c0c)), (1, (.slice on1a on1l on1c)), (4, (.int .i64 t4)), (5, (.int .i64 t5)), (6, (.int .i64 (IntKind.wrap .i64 (open6 + 1)))), (7, (.int .i64 x_8)), (8, (.int .i64 (IntKind.wrap .i64 (i8 + 1))))] m_5)
  (Kt .normal [(0, (.slice c0a c0l c0c)), (1, (.slice on1a on1l on1c)), (4, (.int .i64 t4)), (5, (.int .i64 t5)), (6, (.int .i64 open6)), (7, (.int .i64 unit7)), (8, (.int .i64 (IntKind.wrap .i64 (i8 + 1))))] m_5))) m)
  (Kt (.exit 0) [(0, (.slice c0a c0l c0c)), (1, (.slice on1a on1l on1c)), (4, (.int .i64 t4)), (5, (.int .i64 t5)), (6, (.int .i64 open6)), (7, (.int .i64 unit7)), (8, (.int .i64 i8))] m)
theorem e156_1 {C : CallT} {c0a : Option Addr} {c0l c0c : Nat} {on1a : Option Addr} {on1l on1c : Nat} {t4 : Int} {t5 : Int} {open6 : Int} {unit7 : Int} {i8 : Int} {Kt : Exit → Fr → Mem → Prop} {m : Mem} (h : s156_1 C c0a c0l c0c on1a on1l on1c t4 t5 open6 unit7 i8 Kt m) : evCode (cfgOf Tryz.prog pureF pureT C [(4, [0, 1, 4, 5, 6, 7, 8])] 156) (codeAt (bodyOf Tryz.prog 156) [1, 1, 1, 0, 1, 0, 0]) (trimK [0, 1, 4, 5, 6, 7, 8] Kt) [(0, (.slice c0a c0l c0c)), (1, (.slice on1a on1l on1c)), (4, (.int .i64 t4)), (5, (.int .i64 t5)), (6, (.int .i64 open6)), (7, (.int .i64 unit7)), (8, (.int .i64 i8))] m :=
  (show _ = _ by kernel_rfl : evCode (cfgOf Tryz.prog pureF pureT C [(4, [0, 1, 4, 5, 6, 7, 8])] 156) (codeAt (bodyOf Tryz.prog 156) [1, 1, 1, 0, 1, 0, 0]) (trimK [0, 1, 4, 5, 6, 7, 8] Kt) [(0, (.slice c0a c0l c0c)), (1, (.slice on1a on1l on1c)), (4, (.int .i64 t4)), (5, (.int .i64 t5)), (6, (.int .i64 open6)), (7, (.int .i64 unit7)), (8, (.int .i64 i8))] m = s156_1 C c0a c0l c0c on1a on1l on1c t4 t5 open6 unit7 i8 Kt m).symm ▸ h
def s156_1r (C : CallT) (c0a : Option Addr) (c0l c0c : Nat) (on1a : Option Addr) (on1l on1c : Nat) (t4 : Int) (t5 : Int) (open6 : Int) (unit7 : Int) (i8 : Int) (K : Value → Mem → Prop) (m : Mem) : Prop :=
  K (.tuple #[(.int .i64 t4), (.int .i64 t5)]) m
theorem e156_1r {C : CallT} {kn : Fr → Mem → Prop} {c0a : Option Addr} {c0l c0c : Nat} {on1a : Option Addr} {on1l on1c : Nat} {t4 : Int} {t5 : Int} {open6 : Int} {unit7 : Int} {i8 : Int} {K : Value → Mem → Prop} {m : Mem} : (andThenE kn (kAt (cfgOf Tryz.prog pureF pureT C [(4, [0, 1, 4, 5, 6, 7, 8])] 156) (bodyOf Tryz.prog 156) [1, 1, 1, 0, 1, 0] (endK Tryz.prog 156 K)) .ret [(0, (.slice c0a c0l c0c)), (1, (.slice on1a on1l on1c)), (4, (.int .i64 t4)), (5, (.int .i64 t5)), (6, (.int .i64 open6)), (7, (.int .i64 unit7)), (8, (.int .i64 i8))] m) = s156_1r C c0a c0l c0c on1a on1l on1c t4 t5 open6 unit7 i8 K m := by kernel_rfl
def s156_1x0 (C : CallT) (c0a : Option Addr) (c0l c0c : Nat) (on1a : Option Addr) (on1l on1c : Nat) (t4 : Int) (t5 : Int) (open6 : Int) (unit7 : Int) (i8 : Int) (K : Value → Mem → Prop) (m : Mem) : Prop :=
  ifB (open6 == 0)
  (K (.tuple #[(.int .i64 (-1)), (.int .i64 0)]) m)
  (ifB (open6 == 1)
  (K (.tuple #[(.int .i64 0), (.int .i64 unit7)]) m)
  (K (.tuple #[(.int .i64 2), (.int .i64 0)]) m))
theorem e156_1x0 {C : CallT} {kn : Fr → Mem → Prop} {c0a : Option Addr} {c0l c0c : Nat} {on1a : Option Addr} {on1l on1c : Nat} {t4 : Int} {t5 : Int} {open6 : Int} {unit7 : Int} {i8 : Int} {K : Value → Mem → Prop} {m : Mem} : (andThenE kn (kAt (cfgOf Tryz.prog pureF pureT C [(4, [0, 1, 4, 5, 6, 7, 8])] 156) (bodyOf Tryz.prog 156) [1, 1, 1, 0, 1, 0] (endK Tryz.prog 156 K)) (.exit 0) [(0, (.slice c0a c0l c0c)), (1, (.slice on1a on1l on1c)), (4, (.int .i64 t4)), (5, (.int .i64 t5)), (6, (.int .i64 open6)), (7, (.int .i64 unit7)), (8, (.int .i64 i8))] m) = s156_1x0 C c0a c0l c0c on1a on1l on1c t4 t5 open6 unit7 i8 K m := by kernel_rfl
def F156_1 (c0a : Option Addr) (c0l c0c : Nat) (on1a : Option Addr) (on1l on1c : Nat) (t4 : Int) (t5 : Int) (open6 : Int) (unit7 : Int) (i8 : Int) : Fr := [(0, (.slice c0a c0l c0c)), (1, (.slice on1a on1l on1c)), (4, (.int .i64 t4)), (5, (.int .i64 t5)), (6, (.int .i64 open6)), (7, (.int .i64 unit7)), (8, (.int .i64 i8))]
theorem loop156_1 {C : CallT} {γ : Type} {c0a : Option Addr} {c0l c0c : Nat} {on1a : Option Addr} {on1l on1c : Nat} {K : Value → Mem → Prop} {m : Mem} (J : γ → Int → Int → Int → Int → Int → Mem → Prop) (μ : γ → Int → Int → Int → Int → Int → Nat) (g : γ) {t4 : Int} {t5 : Int} {open6 : Int} {unit7 : Int} {i8 : Int} (hJ : J g t4 t5 open6 unit7 i8 m)
    (hs : ∀ g t4 t5 open6 unit7 i8 m, J g t4 t5 open6 unit7 i8 m → s156_1 C c0a c0l c0c on1a on1l on1c t4 t5 open6 unit7 i8 (andThenE (fun fr m' => ∃ g' t4' t5' open6' unit7' i8', fr = F156_1 c0a c0l c0c on1a on1l on1c t4' t5' open6' unit7' i8' ∧ J g' t4' t5' open6' unit7' i8' m' ∧ μ g' t4' t5' open6' unit7' i8' < μ g t4 t5 open6 unit7 i8) (kAt (cfgOf Tryz.prog pureF pureT C [(4, [0, 1, 4, 5, 6, 7, 8])] 156) (bodyOf Tryz.prog 156) [1, 1, 1, 0, 1, 0] (endK Tryz.prog 156 K))) m) :
    loopE [0, 1, 4, 5, 6, 7, 8] (evCode (cfgOf Tryz.prog pureF pureT C [(4, [0, 1, 4, 5, 6, 7, 8])] 156) (codeAt (bodyOf Tryz.prog 156) [1, 1, 1, 0, 1, 0, 0])) (kAt (cfgOf Tryz.prog pureF pureT C [(4, [0, 1, 4, 5, 6, 7, 8])] 156) (bodyOf Tryz.prog 156) [1, 1, 1, 0, 1, 0] (endK Tryz.prog 156 K)) [(0, (.slice c0a c0l c0c)), (1, (.slice on1a on1l on1c)), (4, (.int .i64 t4)), (5, (.int .i64 t5)), (6, (.int .i64 open6)), (7, (.int .i64 unit7)), (8, (.int .i64 i8))] m := by
  refine loop_rule (σ := γ × Int × Int × Int × Int × Int) (fun s => F156_1 c0a c0l c0c on1a on1l on1c s.2.1 s.2.2.1 s.2.2.2.1 s.2.2.2.2.1 s.2.2.2.2.2) (fun s m => J s.1 s.2.1 s.2.2.1 s.2.2.2.1 s.2.2.2.2.1 s.2.2.2.2.2 m) (fun s => μ s.1 s.2.1 s.2.2.1 s.2.2.2.1 s.2.2.2.2.1 s.2.2.2.2.2) (g, t4, t5, open6, unit7, i8) rfl hJ ?_
  intro s m hJ
  have h := hs s.1 s.2.1 s.2.2.1 s.2.2.2.1 s.2.2.2.2.1 s.2.2.2.2.2 m hJ
  refine e156_1 ?_
  refine Eq.mp (congrArg (fun B => s156_1 C c0a c0l c0c on1a on1l on1c s.2.1 s.2.2.1 s.2.2.2.1 s.2.2.2.2.1 s.2.2.2.2.2 (andThenE B (kAt (cfgOf Tryz.prog pureF pureT C [(4, [0, 1, 4, 5, 6, 7, 8])] 156) (bodyOf Tryz.prog 156) [1, 1, 1, 0, 1, 0] (endK Tryz.prog 156 K))) m) ?_) h
  funext fr m'
  apply propext
  constructor
  · rintro ⟨g', t4', t5', open6', unit7', i8', h1, h2, h3⟩
    exact ⟨(g', t4', t5', open6', unit7', i8'), h1, h2, h3⟩
  · rintro ⟨⟨g', t4', t5', open6', unit7', i8'⟩, h1, h2, h3⟩
    exact ⟨g', t4', t5', open6', unit7', i8', h1, h2, h3⟩

end Go.Proofs.Qxb6500974aGreat
