import Derived.Test.Qxb6500974aGreatPure
set_option linter.all false
set_option linter.unusedVariables false
set_option maxRecDepth 100000
namespace Go.Proofs.Qxb6500974aGreat
open Go.Eng

def s89 (C : CallT) (cs0a : Option Addr) (cs0l cs0c : Nat) (K : Value → Mem → Prop) (m : Mem) : Prop :=
  loopE [0, 2, 3] (evCode (cfgOf Tryz.prog pureF pureT C [(2, [0, 2, 3])] 89) (codeAt (bodyOf Tryz.prog 89) [1, 0, 1, 0, 0])) (kAt (cfgOf Tryz.prog pureF pureT C [(2, [0, 2, 3])] 89) (bodyOf Tryz.prog 89) [1, 0, 1, 0] (endK Tryz.prog 89 K)) [(0, (.slice cs0a cs0l cs0c)), (2, (.int .i64 0)), (3, (.int .i64 0))] m
theorem e89 (C : CallT) (cs0a : Option Addr) (cs0l cs0c : Nat) (K : Value → Mem → Prop) (m : Mem) : evFn Tryz.prog pureF pureT C [(2, [0, 2, 3])] 89 [(.slice cs0a cs0l cs0c)] K m = s89 C cs0a cs0l cs0c K m := by kernel_rfl
theorem call89 {W0 : World} {cs0a : Option Addr} {cs0l cs0c : Nat} {K : Value → Mem → Prop} {m : Mem} (h : s89 (callOK Tryz.prog W0) cs0a cs0l cs0c K m) : callOK Tryz.prog W0 89 [(.slice cs0a cs0l cs0c)] K m :=
  evFn_sound pureOk mixedP (fun w => Tryz.call89 _ w) ((e89 (callOK Tryz.prog W0) cs0a cs0l cs0c K m).symm ▸ h)
def s89_1 (C : CallT) (cs0a : Option Addr) (cs0l cs0c : Nat) (t2 : Int) (mask3 : Int) (Kt : Exit → Fr → Mem → Prop) (m : Mem) : Prop :=
  ifB (decide (mask3 < 4096))
  (C 77 [(.slice cs0a cs0l cs0c), (.int .i64 mask3)] (fun rm_2 m_2 =>
  ∃ x_1, rm_2 = (.bool x_1) ∧
  ifB x_1
  (Kt .ret [(0, (.slice cs0a cs0l cs0c)), (2, (.int .i64 mask3)), (3, (.int .i64 mask3))] m_2)
  (Kt .normal [(0, (.slice cs0a cs0l cs0c)), (2, (.int .i64 t2)), (3, (.int .i64 (IntKind.wrap .i64 (mask3 + 1))))] m_2)) m)
  (Kt (.exit 0) [(0, (.slice cs0a cs0l cs0c)), (2, (.int .i64 t2)), (3, (.int .i64 mask3))] m)
theorem e89_1 {C : CallT} {cs0a : Option Addr} {cs0l cs0c : Nat} {t2 : Int} {mask3 : Int} {Kt : Exit → Fr → Mem → Prop} {m : Mem} (h : s89_1 C cs0a cs0l cs0c t2 mask3 Kt m) : evCode (cfgOf Tryz.prog pureF pureT C [(2, [0, 2, 3])] 89) (codeAt (bodyOf Tryz.prog 89) [1, 0, 1, 0, 0]) (trimK [0, 2, 3] Kt) [(0, (.slice cs0a cs0l cs0c)), (2, (.int .i64 t2)), (3, (.int .i64 mask3))] m :=
  (show _ = _ by kernel_rfl : evCode (cfgOf Tryz.prog pureF pureT C [(2, [0, 2, 3])] 89) (codeAt (bodyOf Tryz.prog 89) [1, 0, 1, 0, 0]) (trimK [0, 2, 3] Kt) [(0, (.slice cs0a cs0l cs0c)), (2, (.int .i64 t2)), (3, (.int .i64 mask3))] m = s89_1 C cs0a cs0l cs0c t2 mask3 Kt m).symm ▸ h
def s89_1r (C : CallT) (cs0a : Option Addr) (cs0l cs0c : Nat) (t2 : Int) (mask3 : Int) (K : Value → Mem → Prop) (m : Mem) : Prop :=
  K (.int .i64 t2) m
theorem e89_1r {C : CallT} {kn : Fr → Mem → Prop} {cs0a : Option Addr} {cs0l cs0c : Nat} {t2 : Int} {mask3 : Int} {K : Value → Mem → Prop} {m : Mem} : (andThenE kn (kAt (cfgOf Tryz.prog pureF pureT C [(2, [0, 2, 3])] 89) (bodyOf Tryz.prog 89) [1, 0, 1, 0] (endK Tryz.prog 89 K)) .ret [(0, (.slice cs0a cs0l cs0c)), (2, (.int .i64 t2)), (3, (.int .i64 mask3))] m) = s89_1r C cs0a cs0l cs0c t2 mask3 K m := by kernel_rfl
def s89_1x0 (C : CallT) (cs0a : Option Addr) (cs0l cs0c : Nat) (t2 : Int) (mask3 : Int) (K : Value → Mem → Prop) (m : Mem) : Prop :=
  K (.int .i64 (-1)) m
theorem e89_1x0 {C : CallT} {kn : Fr → Mem → Prop} {cs0a : Option Addr} {cs0l cs0c : Nat} {t2 : Int} {mask3 : Int} {K : Value → Mem → Prop} {m : Mem} : (andThenE kn (kAt (cfgOf Tryz.prog pureF pureT C [(2, [0, 2, 3])] 89) (bodyOf Tryz.prog 89) [1, 0, 1, 0] (endK Tryz.prog 89 K)) (.exit 0) [(0, (.slice cs0a cs0l cs0c)), (2, (.int .i64 t2)), (3, (.int .i64 mask3))] m) = s89_1x0 C cs0a cs0l cs0c t2 mask3 K m := by kernel_rfl
def F89_1 (cs0a : Option Addr) (cs0l cs0c : Nat) (t2 : Int) (mask3 : Int) : Fr := [(0, (.slice cs0a cs0l cs0c)), (2, (.int .i64 t2)), (3, (.int .i64 mask3))]
theorem loop89_1 {C : CallT} {γ : Type} {cs0a : Option Addr} {cs0l cs0c : Nat} {K : Value → Mem → Prop} {m : Mem} (J : γ → Int → Int → Mem → Prop) (μ : γ → Int → Int → Nat) (g : γ) {t2 : Int} {mask3 : Int} (hJ : J g t2 mask3 m)
    (hs : ∀ g t2 mask3 m, J g t2 mask3 m → s89_1 C cs0a cs0l cs0c t2 mask3 (andThenE (fun fr m' => ∃ g' t2' mask3', fr = F89_1 cs0a cs0l cs0c t2' mask3' ∧ J g' t2' mask3' m' ∧ μ g' t2' mask3' < μ g t2 mask3) (kAt (cfgOf Tryz.prog pureF pureT C [(2, [0, 2, 3])] 89) (bodyOf Tryz.prog 89) [1, 0, 1, 0] (endK Tryz.prog 89 K))) m) :
    loopE [0, 2, 3] (evCode (cfgOf Tryz.prog pureF pureT C [(2, [0, 2, 3])] 89) (codeAt (bodyOf Tryz.prog 89) [1, 0, 1, 0, 0])) (kAt (cfgOf Tryz.prog pureF pureT C [(2, [0, 2, 3])] 89) (bodyOf Tryz.prog 89) [1, 0, 1, 0] (endK Tryz.prog 89 K)) [(0, (.slice cs0a cs0l cs0c)), (2, (.int .i64 t2)), (3, (.int .i64 mask3))] m := by
  refine loop_rule (σ := γ × Int × Int) (fun s => F89_1 cs0a cs0l cs0c s.2.1 s.2.2) (fun s m => J s.1 s.2.1 s.2.2 m) (fun s => μ s.1 s.2.1 s.2.2) (g, t2, mask3) rfl hJ ?_
  intro s m hJ
  have h := hs s.1 s.2.1 s.2.2 m hJ
  refine e89_1 ?_
  refine Eq.mp (congrArg (fun B => s89_1 C cs0a cs0l cs0c s.2.1 s.2.2 (andThenE B (kAt (cfgOf Tryz.prog pureF pureT C [(2, [0, 2, 3])] 89) (bodyOf Tryz.prog 89) [1, 0, 1, 0] (endK Tryz.prog 89 K))) m) ?_) h
  funext fr m'
  apply propext
  constructor
  · rintro ⟨g', t2', mask3', h1, h2, h3⟩
    exact ⟨(g', t2', mask3'), h1, h2, h3⟩
  · rintro ⟨⟨g', t2', mask3'⟩, h1, h2, h3⟩
    exact ⟨g', t2', mask3', h1, h2, h3⟩

def s90 (C : CallT) (w0 : Nat) (id1 : Int) (K : Value → Mem → Prop) (m : Mem) : Prop :=
  ifB (decide (id1 < 0))
  (K (.bool false) m)
  (ifB (decide (id1 ≥ 52))
  (K (.bool false) m)
  (ldInt .u64 m w0 677 fun x_1 =>
  K (.bool (goHas x_1 id1)) m))
theorem e90 (C : CallT) (w0 : Nat) (id1 : Int) (K : Value → Mem → Prop) (m : Mem) : evFn Tryz.prog pureF pureT C [] 90 [(ptr w0 0), (.int .i64 id1)] K m = s90 C w0 id1 K m := by kernel_rfl
theorem call90 {W0 : World} {w0 : Nat} {id1 : Int} {K : Value → Mem → Prop} {m : Mem} (h : s90 (callOK Tryz.prog W0) w0 id1 K m) : callOK Tryz.prog W0 90 [(ptr w0 0), (.int .i64 id1)] K m :=
  evFn_sound pureOk mixedP (fun w => Tryz.call90 _ w) ((e90 (callOK Tryz.prog W0) w0 id1 K m).symm ▸ h)

def s92 (C : CallT) (p0 : Nat) (c1 : Int) (k2 : Int) (i3 : Int) (K : Value → Mem → Prop) (m : Mem) : Prop :=
  st m p0 2 (.int .i64 i3) fun m_1 =>
  ifB (k2 == 4)
  (st m_1 p0 1 (.int .i64 1) fun m_2 =>
  K (.tuple #[]) m_2)
  (ifB (k2 == 5)
  (ldBool m_1 p0 8 fun y_3 =>
  ifB y_3
  (C 51 [(ptr p0 0), (.int .i64 2), (.int .i64 i3)] (fun rm_4 m_4 =>
  rm_4 = (.tuple #[]) ∧
  K (.tuple #[]) m_4) m_1)
  (st m_1 p0 1 (.int .i64 4) fun m_5 =>
  st m_5 p0 7 (.bool true) fun m_6 =>
  st m_6 p0 8 (.bool true) fun m_7 =>
  K (.tuple #[]) m_7))
  (ifB (k2 == 3)
  (st m_1 p0 1 (.int .i64 2) fun m_8 =>
  st m_8 p0 3 (.bool true) fun m_9 =>
  st m_9 p0 4 (.int .i64 0) fun m_10 =>
  K (.tuple #[]) m_10)
  (ifB (k2 == 2)
  (st m_1 p0 1 (.int .i64 3) fun m_11 =>
  st m_11 p0 3 (.bool false) fun m_12 =>
  st m_12 p0 4 (.int .i64 (IntKind.wrap .i64 (IntKind.wrap .u8 (c1 - 48)))) fun m_13 =>
  K (.tuple #[]) m_13)
  (ifB (k2 == 0)
  (C 51 [(ptr p0 0), (.int .i64 2), (.int .i64 i3)] (fun rm_14 m_14 =>
  rm_14 = (.tuple #[]) ∧
  K (.tuple #[]) m_14) m_1)
  (K (.tuple #[]) m_1)))))
theorem e92 (C : CallT) (p0 : Nat) (c1 : Int) (k2 : Int) (i3 : Int) (K : Value → Mem → Prop) (m : Mem) : evFn Tryz.prog pureF pureT C [] 92 [(ptr p0 0), (.int .u8 c1), (.int .i64 k2), (.int .i64 i3)] K m = s92 C p0 c1 k2 i3 K m := by kernel_rfl
theorem call92 {W0 : World} {p0 : Nat} {c1 : Int} {k2 : Int} {i3 : Int} {K : Value → Mem → Prop} {m : Mem} (h : s92 (callOK Tryz.prog W0) p0 c1 k2 i3 K m) : callOK Tryz.prog W0 92 [(ptr p0 0), (.int .u8 c1), (.int .i64 k2), (.int .i64 i3)] K m :=
  evFn_sound pureOk mixedP (fun w => Tryz.call92 _ w) ((e92 (callOK Tryz.prog W0) p0 c1 k2 i3 K m).symm ▸ h)

def s93 (C : CallT) (p0 : Nat) (K : Value → Mem → Prop) (m : Mem) : Prop :=
  ldInt .i64 m p0 4 fun x_1 =>
  ifB (x_1 == 0)
  (ldBool m p0 3 fun y_2 =>
  ifB y_2
  (ldInt .i64 m p0 2 fun x_3 =>
  C 51 [(ptr p0 0), (.int .i64 3), (.int .i64 x_3)] (fun rm_4 m_4 =>
  rm_4 = (.tuple #[]) ∧
  K (.tuple #[]) m_4) m)
  (ldInt .i64 m p0 4 fun x_5 =>
  ifB (decide (x_5 > 12))
  (ldInt .i64 m p0 2 fun x_6 =>
  C 51 [(ptr p0 0), (.int .i64 4), (.int .i64 x_6)] (fun rm_7 m_7 =>
  rm_7 = (.tuple #[]) ∧
  K (.tuple #[]) m_7) m)
  (ldInt .i64 m p0 4 fun x_8 =>
  ifB (x_8 == 0)
  (C 134 [(ptr p0 0)] (fun rm_9 m_9 =>
  rm_9 = (.tuple #[]) ∧
  K (.tuple #[]) m_9) m)
  (st m p0 8 (.bool true) fun m_10 =>
  ldBool m_10 p0 3 fun y_11 =>
  ifB y_11
  (ldInt .u16 m_10 p0 6 fun x_12 =>
  ldInt .i64 m_10 p0 4 fun x_13 =>
  (0 : Int) ≤ (IntKind.wrap .u64 x_13) ∧
  st m_10 p0 6 (.int .u16 (bOr .u16 x_12 (shlV .u16 1 (IntKind.wrap .u64 x_13)))) fun m_14 =>
  K (.tuple #[]) m_14)
  (ldInt .u16 m_10 p0 5 fun x_15 =>
  ldInt .i64 m_10 p0 4 fun x_16 =>
  (0 : Int) ≤ (IntKind.wrap .u64 x_16) ∧
  st m_10 p0 5 (.int .u16 (bOr .u16 x_15 (shlV .u16 1 (IntKind.wrap .u64 x_16)))) fun m_17 =>
  K (.tuple #[]) m_17)))))
  (ldInt .i64 m p0 4 fun x_18 =>
  ifB (decide (x_18 > 12))
  (ldInt .i64 m p0 2 fun x_19 =>
  C 51 [(ptr p0 0), (.int .i64 4), (.int .i64 x_19)] (fun rm_20 m_20 =>
  rm_20 = (.tuple #[]) ∧
  K (.tuple #[]) m_20) m)
  (ldInt .i64 m p0 4 fun x_21 =>
  ifB (x_21 == 0)
  (C 134 [(ptr p0 0)] (fun rm_22 m_22 =>
  rm_22 = (.tuple #[]) ∧
  K (.tuple #[]) m_22) m)
  (st m p0 8 (.bool true) fun m_23 =>
  ldBool m_23 p0 3 fun y_24 =>
  ifB y_24
  (ldInt .u16 m_23 p0 6 fun x_25 =>
  ldInt .i64 m_23 p0 4 fun x_26 =>
  (0 : Int) ≤ (IntKind.wrap .u64 x_26) ∧
  st m_23 p0 6 (.int .u16 (bOr .u16 x_25 (shlV .u16 1 (IntKind.wrap .u64 x_26)))) fun m_27 =>
  K (.tuple #[]) m_27)
  (ldInt .u16 m_23 p0 5 fun x_28 =>
  ldInt .i64 m_23 p0 4 fun x_29 =>
  (0 : Int) ≤ (IntKind.wrap .u64 x_29) ∧
  st m_23 p0 5 (.int .u16 (bOr .u16 x_28 (shlV .u16 1 (IntKind.wrap .u64 x_29)))) fun m_30 =>
  K (.tuple #[]) m_30))))
theorem e93 (C : CallT) (p0 : Nat) (K : Value → Mem → Prop) (m : Mem) : evFn Tryz.prog pureF pureT C [] 93 [(ptr p0 0)] K m = s93 C p0 K m := by kernel_rfl
theorem call93 {W0 : World} {p0 : Nat} {K : Value → Mem → Prop} {m : Mem} (h : s93 (callOK Tryz.prog W0) p0 K m) : callOK Tryz.prog W0 93 [(ptr p0 0)] K m :=
  evFn_sound pureOk mixedP (fun w => Tryz.call93 _ w) ((e93 (callOK Tryz.prog W0) p0 K m).symm ▸ h)

def s94 (C : CallT) (t0 : Nat) (n1 : Int) (K : Value → Mem → Prop) (m : Mem) : Prop :=
  loopE [0, 1] (evCode (cfgOf Tryz.prog pureF pureT C [(0, [0, 1])] 94) (codeAt (bodyOf Tryz.prog 94) [0, 0, 0])) (kAt (cfgOf Tryz.prog pureF pureT C [(0, [0, 1])] 94) (bodyOf Tryz.prog 94) [0, 0] (endK Tryz.prog 94 K)) [(0, (ptr t0 0)), (1, (.int .i64 n1))] m
theorem e94 (C : CallT) (t0 : Nat) (n1 : Int) (K : Value → Mem → Prop) (m : Mem) : evFn Tryz.prog pureF pureT C [(0, [0, 1])] 94 [(ptr t0 0), (.int .i64 n1)] K m = s94 C t0 n1 K m := by kernel_rfl
theorem call94 {W0 : World} {t0 : Nat} {n1 : Int} {K : Value → Mem → Prop} {m : Mem} (h : s94 (callOK Tryz.prog W0) t0 n1 K m) : callOK Tryz.prog W0 94 [(ptr t0 0), (.int .i64 n1)] K m :=
  evFn_sound pureOk mixedP (fun w => Tryz.call94 _ w) ((e94 (callOK Tryz.prog W0) t0 n1 K m).symm ▸ h)
def s94_1 (C : CallT) (t0 : Nat) (n1 : Int) (Kt : Exit → Fr → Mem → Prop) (m : Mem) : Prop :=
  ldInt .i64 m t0 12 fun x_1 =>
  ifB (decide (x_1 > n1))
  (ldInt .i64 m t0 12 fun x_2 =>
  st m t0 12 (.int .i64 (IntKind.wrap .i64 (x_2 - 1))) fun m_3 =>
  ldInt .i64 m_3 t0 12 fun x_4 =>
  ckI x_4 12 fun j_5 =>
  ldInt .i64 m_3 t0 (0 + j_5) fun x_6 =>
  ckI (goVar x_6) 13 fun j_7 =>
  st m_3 t0 (15 + j_7) (.int .i8 0) fun m_8 =>
  ckI (goVar x_6) 13 fun j_9 =>
  st m_8 t0 (28 + j_9) (.int .i64 (-1)) fun m_10 =>
  ckI (goVar x_6) 13 fun j_11 =>
  st m_10 t0 (41 + j_11) (.int .i64 (-1)) fun m_12 =>
  ckI (goVar x_6) 13 fun j_13 =>
  st m_12 t0 (54 + j_13) (.int .i64 (-1)) fun m_14 =>
  ldInt .i64 m_14 t0 80 fun x_15 =>
  st m_14 t0 80 (.int .i64 (IntKind.wrap .i64 (x_15 + 1))) fun m_16 =>
  Kt .normal [(0, (ptr t0 0)), (1, (.int .i64 n1))] m_16)
  (Kt (.exit 0) [(0, (ptr t0 0)), (1, (.int .i64 n1))] m)
theorem e94_1 {C : CallT} {t0 : Nat} {n1 : Int} {Kt : Exit → Fr → Mem → Prop} {m : Mem} (h : s94_1 C t0 n1 Kt m) : evCode (cfgOf Tryz.prog pureF pureT C [(0, [0, 1])] 94) (codeAt (bodyOf Tryz.prog 94) [0, 0, 0]) (trimK [0, 1] Kt) [(0, (ptr t0 0)), (1, (.int .i64 n1))] m :=
  (show _ = _ by kernel_rfl : evCode (cfgOf Tryz.prog pureF pureT C [(0, [0, 1])] 94) (codeAt (bodyOf Tryz.prog 94) [0, 0, 0]) (trimK [0, 1] Kt) [(0, (ptr t0 0)), (1, (.int .i64 n1))] m = s94_1 C t0 n1 Kt m).symm ▸ h
def s94_1x0 (C : CallT) (t0 : Nat) (n1 : Int) (K : Value → Mem → Prop) (m : Mem) : Prop :=
  ldInt .i64 m t0 13 fun x_17 =>
  ldInt .i64 m t0 12 fun x_18 =>
  ifB (decide (x_17 > x_18))
  (ldInt .i64 m t0 12 fun x_19 =>
  st m t0 13 (.int .i64 x_19) fun m_20 =>
  K (.tuple #[]) m_20)
  (K (.tuple #[]) m)
theorem e94_1x0 {C : CallT} {kn : Fr → Mem → Prop} {t0 : Nat} {n1 : Int} {K : Value → Mem → Prop} {m : Mem} : (andThenE kn (kAt (cfgOf Tryz.prog pureF pureT C [(0, [0, 1])] 94) (bodyOf Tryz.prog 94) [0, 0] (endK Tryz.prog 94 K)) (.exit 0) [(0, (ptr t0 0)), (1, (.int .i64 n1))] m) = s94_1x0 C t0 n1 K m := by kernel_rfl
def F94_1 (t0 : Nat) (n1 : Int) : Fr := [(0, (ptr t0 0)), (1, (.int .i64 n1))]
theorem loop94_1 {C : CallT} {γ : Type} {t0 : Nat} {n1 : Int} {K : Value → Mem → Prop} {m : Mem} (J : γ → Mem → Prop) (μ : γ → Nat) (g : γ)  (hJ : J g  m)
    (hs : ∀ g  m, J g  m → s94_1 C t0 n1 (andThenE (fun fr m' => ∃ g', fr = F94_1 t0 n1 ∧ J g'  m' ∧ μ g'  < μ g ) (kAt (cfgOf Tryz.prog pureF pureT C [(0, [0, 1])] 94) (bodyOf Tryz.prog 94) [0, 0] (endK Tryz.prog 94 K))) m) :
    loopE [0, 1] (evCode (cfgOf Tryz.prog pureF pureT C [(0, [0, 1])] 94) (codeAt (bodyOf Tryz.prog 94) [0, 0, 0])) (kAt (cfgOf Tryz.prog pureF pureT C [(0, [0, 1])] 94) (bodyOf Tryz.prog 94) [0, 0] (endK Tryz.prog 94 K)) [(0, (ptr t0 0)), (1, (.int .i64 n1))] m := by
  refine loop_rule (σ := γ) (fun s => F94_1 t0 n1) (fun s m => J s  m) (fun s => μ s ) g rfl hJ ?_
  intro s m hJ
  have h := hs s  m hJ
  refine e94_1 ?_
  refine Eq.mp (congrArg (fun B => s94_1 C t0 n1 (andThenE B (kAt (cfgOf Tryz.prog pureF pureT C [(0, [0, 1])] 94) (bodyOf Tryz.prog 94) [0, 0] (endK Tryz.prog 94 K))) m) ?_) h
  funext fr m'
  apply propext
  constructor
  · rintro ⟨g', h1, h2, h3⟩
    exact ⟨g', h1, h2, h3⟩
  · rintro ⟨g', h1, h2, h3⟩
    exact ⟨g', h1, h2, h3⟩

def s95 (C : CallT) (c0a : Option Addr) (c0l c0c : Nat) (K : Value → Mem → Prop) (m : Mem) : Prop :=
  ifB (decide (((c0l : Nat) : Int) > 12))
  (K (.int .i64 1) m)
  (loopE [0, 2, 3] (evCode (cfgOf Tryz.prog pureF pureT C [(4, [0, 2, 3])] 95) (codeAt (bodyOf Tryz.prog 95) [1, 1, 0, 1, 0, 0])) (kAt (cfgOf Tryz.prog pureF pureT C [(4, [0, 2, 3])] 95) (bodyOf Tryz.prog 95) [1, 1, 0, 1, 0] (endK Tryz.prog 95 K)) [(0, (.slice c0a c0l c0c)), (2, (.int .i64 0)), (3, (.int .i64 0))] m)
theorem e95 (C : CallT) (c0a : Option Addr) (c0l c0c : Nat) (K : Value → Mem → Prop) (m : Mem) : evFn Tryz.prog pureF pureT C [(4, [0, 2, 3])] 95 [(.slice c0a c0l c0c)] K m = s95 C c0a c0l c0c K m := by kernel_rfl
theorem call95 {W0 : World} {c0a : Option Addr} {c0l c0c : Nat} {K : Value → Mem → Prop} {m : Mem} (h : s95 (callOK Tryz.prog W0) c0a c0l c0c K m) : callOK Tryz.prog W0 95 [(.slice c0a c0l c0c)] K m :=
  evFn_sound pureOk mixedP (fun w => Tryz.call95 _ w) ((e95 (callOK Tryz.prog W0) c0a c0l c0c K m).symm ▸ h)
def s95_1 (C : CallT) (c0a : Option Addr) (c0l c0c : Nat) (t2 : Int) (i3 : Int) (Kt : Exit → Fr → Mem → Prop) (m : Mem) : Prop :=
  ifB (decide (i3 < ((c0l : Nat) : Int)))
  (ckP c0a fun b_1 o_1 =>
  ckI i3 c0l fun j_2 =>
  ldInt .i64 m b_1 (o_1 + j_2) fun x_3 =>
  ifB (!(goGoodLit x_3))
  (Kt .ret [(0, (.slice c0a c0l c0c)), (2, (.int .i64 7)), (3, (.int .i64 i3))] m)
  (ifB (decide (i3 > 0))
  (ckP c0a fun b_4 o_4 =>
  ckI i3 c0l fun j_5 =>
  ldInt .i64 m b_4 (o_4 + j_5) fun x_6 =>
  ckP c0a fun b_7 o_7 =>
  ckI (IntKind.wrap .i64 (i3 - 1)) c0l fun j_8 =>
  ldInt .i64 m b_7 (o_7 + j_8) fun x_9 =>
  ifB (decide ((goVar x_6) ≤ (goVar x_9)))
  (Kt .ret [(0, (.slice c0a c0l c0c)), (2, (.int .i64 8)), (3, (.int .i64 i3))] m)
  (Kt .normal [(0, (.slice c0a c0l c0c)), (2, (.int .i64 t2)), (3, (.int .i64 (IntKind.wrap .i64 (i3 + 1))))] m))
  (Kt .normal [(0, (.slice c0a c0l c0c)), (2, (.int .i64 t2)), (3, (.int .i64 (IntKind.wrap .i64 (i3 + 1))))] m)))
  (Kt (.exit 0) [(0, (.slice c0a c0l c0c)), (2, (.int .i64 t2)), (3, (.int .i64 i3))] m)
theorem e95_1 {C : CallT} {c0a : Option Addr} {c0l c0c : Nat} {t2 : Int} {i3 : Int} {Kt : Exit → Fr → Mem → Prop} {m : Mem} (h : s95_1 C c0a c0l c0c t2 i3 Kt m) : evCode (cfgOf Tryz.prog pureF pureT C [(4, [0, 2, 3])] 95) (codeAt (bodyOf Tryz.prog 95) [1, 1, 0, 1, 0, 0]) (trimK [0, 2, 3] Kt) [(0, (.slice c0a c0l c0c)), (2, (.int .i64 t2)), (3, (.int .i64 i3))] m :=
  (show _ = _ by kernel_rfl : evCode (cfgOf Tryz.prog pureF pureT C [(4, [0, 2, 3])] 95) (codeAt (bodyOf Tryz.prog 95) [1, 1, 0, 1, 0, 0]) (trimK [0, 2, 3] Kt) [(0, (.slice c0a c0l c0c)), (2, (.int .i64 t2)), (3, (.int .i64 i3))] m = s95_1 C c0a c0l c0c t2 i3 Kt m).symm ▸ h
def s95_1r (C : CallT) (c0a : Option Addr) (c0l c0c : Nat) (t2 : Int) (i3 : Int) (K : Value → Mem → Prop) (m : Mem) : Prop :=
  K (.int .i64 t2) m
theorem e95_1r {C : CallT} {kn : Fr → Mem → Prop} {c0a : Option Addr} {c0l c0c : Nat} {t2 : Int} {i3 : Int} {K : Value → Mem → Prop} {m : Mem} : (andThenE kn (kAt (cfgOf Tryz.prog pureF pureT C [(4, [0, 2, 3])] 95) (bodyOf Tryz.prog 95) [1, 1, 0, 1, 0] (endK Tryz.prog 95 K)) .ret [(0, (.slice c0a c0l c0c)), (2, (.int .i64 t2)), (3, (.int .i64 i3))] m) = s95_1r C c0a c0l c0c t2 i3 K m := by kernel_rfl
def s95_1x0 (C : CallT) (c0a : Option Addr) (c0l c0c : Nat) (t2 : Int) (i3 : Int) (K : Value → Mem → Prop) (m : Mem) : Prop :=
  K (.int .i64 0) m
theorem e95_1x0 {C : CallT} {kn : Fr → Mem → Prop} {c0a : Option Addr} {c0l c0c : Nat} {t2 : Int} {i3 : Int} {K : Value → Mem → Prop} {m : Mem} : (andThenE kn (kAt (cfgOf Tryz.prog pureF pureT C [(4, [0, 2, 3])] 95) (bodyOf Tryz.prog 95) [1, 1, 0, 1, 0] (endK Tryz.prog 95 K)) (.exit 0) [(0, (.slice c0a c0l c0c)), (2, (.int .i64 t2)), (3, (.int .i64 i3))] m) = s95_1x0 C c0a c0l c0c t2 i3 K m := by kernel_rfl
def F95_1 (c0a : Option Addr) (c0l c0c : Nat) (t2 : Int) (i3 : Int) : Fr := [(0, (.slice c0a c0l c0c)), (2, (.int .i64 t2)), (3, (.int .i64 i3))]
theorem loop95_1 {C : CallT} {γ : Type} {c0a : Option Addr} {c0l c0c : Nat} {K : Value → Mem → Prop} {m : Mem} (J : γ → Int → Int → Mem → Prop) (μ : γ → Int → Int → Nat) (g : γ) {t2 : Int} {i3 : Int} (hJ : J g t2 i3 m)
    (hs : ∀ g t2 i3 m, J g t2 i3 m → s95_1 C c0a c0l c0c t2 i3 (andThenE (fun fr m' => ∃ g' t2' i3', fr = F95_1 c0a c0l c0c t2' i3' ∧ J g' t2' i3' m' ∧ μ g' t2' i3' < μ g t2 i3) (kAt (cfgOf Tryz.prog pureF pureT C [(4, [0, 2, 3])] 95) (bodyOf Tryz.prog 95) [1, 1, 0, 1, 0] (endK Tryz.prog 95 K))) m) :
    loopE [0, 2, 3] (evCode (cfgOf Tryz.prog pureF pureT C [(4, [0, 2, 3])] 95) (codeAt (bodyOf Tryz.prog 95) [1, 1, 0, 1, 0, 0])) (kAt (cfgOf Tryz.prog pureF pureT C [(4, [0, 2, 3])] 95) (bodyOf Tryz.prog 95) [1, 1, 0, 1, 0] (endK Tryz.prog 95 K)) [(0, (.slice c0a c0l c0c)), (2, (.int .i64 t2)), (3, (.int .i64 i3))] m := by
  refine loop_rule (σ := γ × Int × Int) (fun s => F95_1 c0a c0l c0c s.2.1 s.2.2) (fun s m => J s.1 s.2.1 s.2.2 m) (fun s => μ s.1 s.2.1 s.2.2) (g, t2, i3) rfl hJ ?_
  intro s m hJ
  have h := hs s.1 s.2.1 s.2.2 m hJ
  refine e95_1 ?_
  refine Eq.mp (congrArg (fun B => s95_1 C c0a c0l c0c s.2.1 s.2.2 (andThenE B (kAt (cfgOf Tryz.prog pureF pureT C [(4, [0, 2, 3])] 95) (bodyOf Tryz.prog 95) [1, 1, 0, 1, 0] (endK Tryz.prog 95 K))) m) ?_) h
  funext fr m'
  apply propext
  constructor
  · rintro ⟨g', t2', i3', h1, h2, h3⟩
    exact ⟨(g', t2', i3'), h1, h2, h3⟩
  · rintro ⟨⟨g', t2', i3'⟩, h1, h2, h3⟩
    exact ⟨g', t2', i3', h1, h2, h3⟩

def s96 (C : CallT) (w0 : Nat) (learnt1 : Bool) (K : Value → Mem → Prop) (m : Mem) : Prop :=
  ifB learnt1
  (loopE [0, 4, 6, 7] (evCode (cfgOf Tryz.prog pureF pureT C [(7, [0, 4, 6, 7])] 96) (codeAt (bodyOf Tryz.prog 96) [1, 1, 1, 1, 0, 1, 0, 0])) (kAt (cfgOf Tryz.prog pureF pureT C [(7, [0, 4, 6, 7])] 96) (bodyOf Tryz.prog 96) [1, 1, 1, 1, 0, 1, 0] (endK Tryz.prog 96 K)) [(0, (ptr w0 0)), (4, (.int .i64 0)), (6, (.int .i64 52)), (7, (.int .i64 40))] m)
  (loopE [0, 4, 6, 7] (evCode (cfgOf Tryz.prog pureF pureT C [(7, [0, 4, 6, 7])] 96) (codeAt (bodyOf Tryz.prog 96) [1, 1, 1, 1, 0, 1, 0, 0])) (kAt (cfgOf Tryz.prog pureF pureT C [(7, [0, 4, 6, 7])] 96) (bodyOf Tryz.prog 96) [1, 1, 1, 1, 0, 1, 0] (endK Tryz.prog 96 K)) [(0, (ptr w0 0)), (4, (.int .i64 0)), (6, (.int .i64 40)), (7, (.int .i64 0))] m)
theorem e96 (C : CallT) (w0 : Nat) (learnt1 : Bool) (K : Value → Mem → Prop) (m : Mem) : evFn Tryz.prog pureF pureT C [(7, [0, 4, 6, 7])] 96 [(ptr w0 0), (.bool learnt1)] K m = s96 C w0 learnt1 K m := by kernel_rfl
theorem call96 {W0 : World} {w0 : Nat} {learnt1 : Bool} {K : Value → Mem → Prop} {m : Mem} (h : s96 (callOK Tryz.prog W0) w0 learnt1 K m) : callOK Tryz.prog W0 96 [(ptr w0 0), (.bool learnt1)] K m :=
  evFn_sound pureOk mixedP (fun w => Tryz.call96 _ w) ((e96 (callOK Tryz.prog W0) w0 learnt1 K m).symm ▸ h)
def s96_1 (C : CallT) (w0 : Nat) (t4 : Int) (hi6 : Int) (id7 : Int) (Kt : Exit → Fr → Mem → Prop) (m : Mem) : Prop :=
  ifB (decide (id7 < hi6))
  (ldInt .u64 m w0 677 fun x_1 =>
  ifB (!(goHas x_1 id7))
  (Kt .ret [(0, (ptr w0 0)), (4, (.int .i64 id7)), (6, (.int .i64 hi6)), (7, (.int .i64 id7))] m)
  (Kt .normal [(0, (ptr w0 0)), (4, (.int .i64 t4)), (6, (.int .i64 hi6)), (7, (.int .i64 (IntKind.wrap .i64 (id7 + 1))))] m))
  (Kt (.exit 0) [(0, (ptr w0 0)), (4, (.int .i64 t4)), (6, (.int .i64 hi6)), (7, (.int .i64 id7))] m)
theorem e96_1 {C : CallT} {w0 : Nat} {t4 : Int} {hi6 : Int} {id7 : Int} {Kt : Exit → Fr → Mem → Prop} {m : Mem} (h : s96_1 C w0 t4 hi6 id7 Kt m) : evCode (cfgOf Tryz.prog pureF pureT C [(7, [0, 4, 6, 7])] 96) (codeAt (bodyOf Tryz.prog 96) [1, 1, 1, 1, 0, 1, 0, 0]) (trimK [0, 4, 6, 7] Kt) [(0, (ptr w0 0)), (4, (.int .i64 t4)), (6, (.int .i64 hi6)), (7, (.int .i64 id7))] m :=
  (show _ = _ by kernel_rfl : evCode (cfgOf Tryz.prog pureF pureT C [(7, [0, 4, 6, 7])] 96) (codeAt (bodyOf Tryz.prog 96) [1, 1, 1, 1, 0, 1, 0, 0]) (trimK [0, 4, 6, 7] Kt) [(0, (ptr w0 0)), (4, (.int .i64 t4)), (6, (.int .i64 hi6)), (7, (.int .i64 id7))] m = s96_1 C w0 t4 hi6 id7 Kt m).symm ▸ h
def s96_1r (C : CallT) (w0 : Nat) (t4 : Int) (hi6 : Int) (id7 : Int) (K : Value → Mem → Prop) (m : Mem) : Prop :=
  K (.int .i64 t4) m
theorem e96_1r {C : CallT} {kn : Fr → Mem → Prop} {w0 : Nat} {t4 : Int} {hi6 : Int} {id7 : Int} {K : Value → Mem → Prop} {m : Mem} : (andThenE kn (kAt (cfgOf Tryz.prog pureF pureT C [(7, [0, 4, 6, 7])] 96) (bodyOf Tryz.prog 96) [1, 1, 1, 1, 0, 1, 0] (endK Tryz.prog 96 K)) .ret [(0, (ptr w0 0)), (4, (.int .i64 t4)), (6, (.int .i64 hi6)), (7, (.int .i64 id7))] m) = s96_1r C w0 t4 hi6 id7 K m := by kernel_rfl
def s96_1x0 (C : CallT) (w0 : Nat) (t4 : Int) (hi6 : Int) (id7 : Int) (K : Value → Mem → Prop) (m : Mem) : Prop :=
  K (.int .i64 (-1)) m
theorem e96_1x0 {C : CallT} {kn : Fr → Mem → Prop} {w0 : Nat} {t4 : Int} {hi6 : Int} {id7 : Int} {K : Value → Mem → Prop} {m : Mem} : (andThenE kn (kAt (cfgOf Tryz.prog pureF pureT C [(7, [0, 4, 6, 7])] 96) (bodyOf Tryz.prog 96) [1, 1, 1, 1, 0, 1, 0] (endK Tryz.prog 96 K)) (.exit 0) [(0, (ptr w0 0)), (4, (.int .i64 t4)), (6, (.int .i64 hi6)), (7, (.int .i64 id7))] m) = s96_1x0 C w0 t4 hi6 id7 K m := by kernel_rfl
def F96_1 (w0 : Nat) (t4 : Int) (hi6 : Int) (id7 : Int) : Fr := [(0, (ptr w0 0)), (4, (.int .i64 t4)), (6, (.int .i64 hi6)), (7, (.int .i64 id7))]
theorem loop96_1 {C : CallT} {γ : Type} {w0 : Nat} {hi6 : Int} {K : Value → Mem → Prop} {m : Mem} (J : γ → Int → Int → Mem → Prop) (μ : γ → Int → Int → Nat) (g : γ) {t4 : Int} {id7 : Int} (hJ : J g t4 id7 m)
    (hs : ∀ g t4 id7 m, J g t4 id7 m → s96_1 C w0 t4 hi6 id7 (andThenE (fun fr m' => ∃ g' t4' id7', fr = F96_1 w0 t4' hi6 id7' ∧ J g' t4' id7' m' ∧ μ g' t4' id7' < μ g t4 id7) (kAt (cfgOf Tryz.prog pureF pureT C [(7, [0, 4, 6, 7])] 96) (bodyOf Tryz.prog 96) [1, 1, 1, 1, 0, 1, 0] (endK Tryz.prog 96 K))) m) :
    loopE [0, 4, 6, 7] (evCode (cfgOf Tryz.prog pureF pureT C [(7, [0, 4, 6, 7])] 96) (codeAt (bodyOf Tryz.prog 96) [1, 1, 1, 1, 0, 1, 0, 0])) (kAt (cfgOf Tryz.prog pureF pureT C [(7, [0, 4, 6, 7])] 96) (bodyOf Tryz.prog 96) [1, 1, 1, 1, 0, 1, 0] (endK Tryz.prog 96 K)) [(0, (ptr w0 0)), (4, (.int .i64 t4)), (6, (.int .i64 hi6)), (7, (.int .i64 id7))] m := by
  refine loop_rule (σ := γ × Int × Int) (fun s => F96_1 w0 s.2.1 hi6 s.2.2) (fun s m => J s.1 s.2.1 s.2.2 m) (fun s => μ s.1 s.2.1 s.2.2) (g, t4, id7) rfl hJ ?_
  intro s m hJ
  have h := hs s.1 s.2.1 s.2.2 m hJ
  refine e96_1 ?_
  refine Eq.mp (congrArg (fun B => s96_1 C w0 s.2.1 hi6 s.2.2 (andThenE B (kAt (cfgOf Tryz.prog pureF pureT C [(7, [0, 4, 6, 7])] 96) (bodyOf Tryz.prog 96) [1, 1, 1, 1, 0, 1, 0] (endK Tryz.prog 96 K))) m) ?_) h
  funext fr m'
  apply propext
  constructor
  · rintro ⟨g', t4', id7', h1, h2, h3⟩
    exact ⟨(g', t4', id7'), h1, h2, h3⟩
  · rintro ⟨⟨g', t4', id7'⟩, h1, h2, h3⟩
    exact ⟨g', t4', id7', h1, h2, h3⟩

def s99 (C : CallT) (w0 : Nat) (id1 : Int) (K : Value → Mem → Prop) (m : Mem) : Prop :=
  ldInt .i64 m w0 706 fun x_1 =>
  st m w0 706 (.int .i64 (IntKind.wrap .i64 (x_1 + 1))) fun m_2 =>
  ckI id1 52 fun j_3 =>
  ldInt .i64 m_2 w0 (625 + j_3) fun x_4 =>
  loopE [0, 1, 5, 6, 7, 8] (evCode (cfgOf Tryz.prog pureF pureT C [(6, [0, 1, 5, 6, 7, 8])] 99) (codeAt (bodyOf Tryz.prog 99) [1, 1, 1, 1, 1, 0, 1, 0, 0])) (kAt (cfgOf Tryz.prog pureF pureT C [(6, [0, 1, 5, 6, 7, 8])] 99) (bodyOf Tryz.prog 99) [1, 1, 1, 1, 1, 0, 1, 0] (endK Tryz.prog 99 K)) [(0, (ptr w0 0)), (1, (.int .i64 id1)), (5, (.int .i64 (IntKind.wrap .i64 (id1 * 12)))), (6, (.int .i64 x_4)), (7, (.int .i64 0)), (8, (.int .i64 0))] m_2
theorem e99 (C : CallT) (w0 : Nat) (id1 : Int) (K : Value → Mem → Prop) (m : Mem) : evFn Tryz.prog pureF pureT C [(6, [0, 1, 5, 6, 7, 8])] 99 [(ptr w0 0), (.int .i64 id1)] K m = s99 C w0 id1 K m := by kernel_rfl
theorem call99 {W0 : World} {w0 : Nat} {id1 : Int} {K : Value → Mem → Prop} {m : Mem} (h : s99 (callOK Tryz.prog W0) w0 id1 K m) : callOK Tryz.prog W0 99 [(ptr w0 0), (.int .i64 id1)] K m :=
  evFn_sound pureOk mixedP (fun w => Tryz.call99 _ w) ((e99 (callOK Tryz.prog W0) w0 id1 K m).symm ▸ h)
def s99_1 (C : CallT) (w0 : Nat) (id1 : Int) (base5 : Int) (n6 : Int) (k7 : Int) (i8 : Int) (Kt : Exit → Fr → Mem → Prop) (m : Mem) : Prop :=
  ifB (decide (i8 < n6))
  (ifB (decide (k7 < 2))
  (ckI (IntKind.wrap .i64 (base5 + i8)) 624 fun j_5 =>
  ldInt .i64 m w0 (1 + j_5) fun x_6 =>
  ldPtr m w0 0 fun p_7 =>
  C 65 [(.pointer p_7), (.int .i64 x_6)] (fun rm_9 m_9 =>
  ∃ x_8, rm_9 = (.int .i64 x_8) ∧
  ifB (x_8 != (-1))
  (ckI (IntKind.wrap .i64 (base5 + k7)) 624 fun j_10 =>
  ldInt .i64 m_9 w0 (1 + j_10) fun x_11 =>
  ckI (IntKind.wrap .i64 (base5 + i8)) 624 fun j_12 =>
  st m_9 w0 (1 + j_12) (.int .i64 x_11) fun m_13 =>
  ckI (IntKind.wrap .i64 (base5 + k7)) 624 fun j_14 =>
  st m_13 w0 (1 + j_14) (.int .i64 x_6) fun m_15 =>
  Kt .normal [(0, (ptr w0 0)), (1, (.int .i64 id1)), (5, (.int .i64 base5)), (6, (.int .i64 n6)), (7, (.int .i64 (IntKind.wrap .i64 (k7 + 1)))), (8, (.int .i64 (IntKind.wrap .i64 (i8 + 1))))] m_15)
  (Kt .normal [(0, (ptr w0 0)), (1, (.int .i64 id1)), (5, (.int .i64 base5)), (6, (.int .i64 n6)), (7, (.int .i64 k7)), (8, (.int .i64 (IntKind.wrap .i64 (i8 + 1))))] m_9)) m)
  (Kt (.exit 0) [(0, (ptr w0 0)), (1, (.int .i64 id1)), (5, (.int .i64 base5)), (6, (.int .i64 n6)), (7, (.int .i64 k7)), (8, (.int .i64 i8))] m))
  (Kt (.exit 0) [(0, (ptr w0 0)), (1, (.int .i64 id1)), (5, (.int .i64 base5)), (6, (.int .i64 n6)), (7, (.int .i64 k7)), (8, (.int .i64 i8))] m)
theorem e99_1 {C : CallT} {w0 : Nat} {id1 : Int} {base5 : Int} {n6 : Int} {k7 : Int} {i8 : Int} {Kt : Exit → Fr → Mem → Prop} {m : Mem} (h : s99_1 C w0 id1 base5 n6 k7 i8 Kt m) : evCode (cfgOf Tryz.prog pureF pureT C [(6, [0, 1, 5, 6, 7, 8])] 99) (codeAt (bodyOf Tryz.prog 99) [1, 1, 1, 1, 1, 0, 1, 0, 0]) (trimK [0, 1, 5, 6, 7, 8] Kt) [(0, (ptr w0 0)), (1, (.int .i64 id1)), (5, (.int .i64 base5)), (6, (.int .i64 n6)), (7, (.int .i64 k7)), (8, (.int .i64 i8))] m :=
  (show _ = _ by kernel_rfl : evCode (cfgOf Tryz.prog pureF pureT C [(6, [0, 1, 5, 6, 7, 8])] 99) (codeAt (bodyOf Tryz.prog 99) [1, 1, 1, 1, 1, 0, 1, 0, 0]) (trimK [0, 1, 5, 6, 7, 8] Kt) [(0, (ptr w0 0)), (1, (.int .i64 id1)), (5, (.int .i64 base5)), (6, (.int .i64 n6)), (7, (.int .i64 k7)), (8, (.int .i64 i8))] m = s99_1 C w0 id1 base5 n6 k7 i8 Kt m).symm ▸ h
def s99_1x0 (C : CallT) (w0 : Nat) (id1 : Int) (base5 : Int) (n6 : Int) (k7 : Int) (i8 : Int) (K : Value → Mem → Prop) (m : Mem) : Prop :=
  ldInt .u64 m w0 678 fun x_16 =>
  st m w0 678 (.int .u64 (bAndNot .u64 x_16 (goBit id1))) fun m_17 =>
  ifB (k7 == 2)
  (ldInt .u64 m_17 w0 679 fun x_18 =>
  st m_17 w0 679 (.int .u64 (bAndNot .u64 x_18 (goBit id1))) fun m_19 =>
  C 135 [(ptr w0 0), (.int .i64 id1)] (fun rm_20 m_20 =>
  rm_20 = (.tuple #[]) ∧
  K (.int .i64 (-1)) m_20) m_19)
  (ldInt .u64 m_17 w0 679 fun x_21 =>
  st m_17 w0 679 (.int .u64 (bOr .u64 x_21 (goBit id1))) fun m_22 =>
  ifB (k7 == 0)
  (K (.int .i64 id1) m_22)
  (ckI base5 624 fun j_23 =>
  ldInt .i64 m_22 w0 (1 + j_23) fun x_24 =>
  ldPtr m_22 w0 0 fun p_25 =>
  C 65 [(.pointer p_25), (.int .i64 x_24)] (fun rm_27 m_27 =>
  ∃ x_26, rm_27 = (.int .i64 x_26) ∧
  ifB (x_26 == 0)
  (ldPtr m_27 w0 0 fun p_28 =>
  C 136 [(.pointer p_28), (.int .i64 x_24), (.int .i64 id1)] (fun rm_30 m_30 =>
  ∃ x_29, rm_30 = (.int .i64 x_29) ∧
  K (.int .i64 (-1)) m_30) m_27)
  (K (.int .i64 (-1)) m_27)) m_22))
theorem e99_1x0 {C : CallT} {kn : Fr → Mem → Prop} {w0 : Nat} {id1 : Int} {base5 : Int} {n6 : Int} {k7 : Int} {i8 : Int} {K : Value → Mem → Prop} {m : Mem} : (andThenE kn (kAt (cfgOf Tryz.prog pureF pureT C [(6, [0, 1, 5, 6, 7, 8])] 99) (bodyOf Tryz.prog 99) [1, 1, 1, 1, 1, 0, 1, 0] (endK Tryz.prog 99 K)) (.exit 0) [(0, (ptr w0 0)), (1, (.int .i64 id1)), (5, (.int .i64 base5)), (6, (.int .i64 n6)), (7, (.int .i64 k7)), (8, (.int .i64 i8))] m) = s99_1x0 C w0 id1 base5 n6 k7 i8 K m := by kernel_rfl
def F99_1 (w0 : Nat) (id1 : Int) (base5 : Int) (n6 : Int) (k7 : Int) (i8 : Int) : Fr := [(0, (ptr w0 0)), (1, (.int .i64 id1)), (5, (.int .i64 base5)), (6, (.int .i64 n6)), (7, (.int .i64 k7)), (8, (.int .i64 i8))]
theorem loop99_1 {C : CallT} {γ : Type} {w0 : Nat} {id1 : Int} {base5 : Int} {n6 : Int} {K : Value → Mem → Prop} {m : Mem} (J : γ → Int → Int → Mem → Prop) (μ : γ → Int → Int → Nat) (g : γ) {k7 : Int} {i8 : Int} (hJ : J g k7 i8 m)
    (hs : ∀ g k7 i8 m, J g k7 i8 m → s99_1 C w0 id1 base5 n6 k7 i8 (andThenE (fun fr m' => ∃ g' k7' i8', fr = F99_1 w0 id1 base5 n6 k7' i8' ∧ J g' k7' i8' m' ∧ μ g' k7' i8' < μ g k7 i8) (kAt (cfgOf Tryz.prog pureF pureT C [(6, [0, 1, 5, 6, 7, 8])] 99) (bodyOf Tryz.prog 99) [1, 1, 1, 1, 1, 0, 1, 0] (endK Tryz.prog 99 K))) m) :
    loopE [0, 1, 5, 6, 7, 8] (evCode (cfgOf Tryz.prog pureF pureT C [(6, [0, 1, 5, 6, 7, 8])] 99) (codeAt (bodyOf Tryz.prog 99) [1, 1, 1, 1, 1, 0, 1, 0, 0])) (kAt (cfgOf Tryz.prog pureF pureT C [(6, [0, 1, 5, 6, 7, 8])] 99) (bodyOf Tryz.prog 99) [1, 1, 1, 1, 1, 0, 1, 0] (endK Tryz.prog 99 K)) [(0, (ptr w0 0)), (1, (.int .i64 id1)), (5, (.int .i64 base5)), (6, (.int .i64 n6)), (7, (.int .i64 k7)), (8, (.int .i64 i8))] m := by
  refine loop_rule (σ := γ × Int × Int) (fun s => F99_1 w0 id1 base5 n6 s.2.1 s.2.2) (fun s m => J s.1 s.2.1 s.2.2 m) (fun s => μ s.1 s.2.1 s.2.2) (g, k7, i8) rfl hJ ?_
  intro s m hJ
  have h := hs s.1 s.2.1 s.2.2 m hJ
  refine e99_1 ?_
  refine Eq.mp (congrArg (fun B => s99_1 C w0 id1 base5 n6 s.2.1 s.2.2 (andThenE B (kAt (cfgOf Tryz.prog pureF pureT C [(6, [0, 1, 5, 6, 7, 8])] 99) (bodyOf Tryz.prog 99) [1, 1, 1, 1, 1, 0, 1, 0] (endK Tryz.prog 99 K))) m) ?_) h
  funext fr m'
  apply propext
  constructor
  · rintro ⟨g', k7', i8', h1, h2, h3⟩
    exact ⟨(g', k7', i8'), h1, h2, h3⟩
  · rintro ⟨⟨g', k7', i8'⟩, h1, h2, h3⟩
    exact ⟨g', k7', i8', h1, h2, h3⟩

def s100 (C : CallT) (t0 : Nat) (K : Value → Mem → Prop) (m : Mem) : Prop :=
  ldInt .i64 m t0 12 fun x_1 =>
  ldInt .i64 m t0 13 fun x_2 =>
  K (.int .i64 (IntKind.wrap .i64 (x_1 - x_2))) m
theorem e100 (C : CallT) (t0 : Nat) (K : Value → Mem → Prop) (m : Mem) : evFn Tryz.prog pureF pureT C [] 100 [(ptr t0 0)] K m = s100 C t0 K m := by kernel_rfl
theorem call100 {W0 : World} {t0 : Nat} {K : Value → Mem → Prop} {m : Mem} (h : s100 (callOK Tryz.prog W0) t0 K m) : callOK Tryz.prog W0 100 [(ptr t0 0)] K m :=
  evFn_sound pureOk mixedP (fun w => Tryz.call100 _ w) ((e100 (callOK Tryz.prog W0) t0 K m).symm ▸ h)

def s101 (C : CallT) (t0 : Nat) (i1 : Int) (K : Value → Mem → Prop) (m : Mem) : Prop :=
  ifB (decide (i1 < 0))
  (K (.int .i64 0) m)
  (ldInt .i64 m t0 12 fun x_1 =>
  ifB (decide (i1 ≥ x_1))
  (K (.int .i64 0) m)
  (ckI i1 12 fun j_2 =>
  ldInt .i64 m t0 (0 + j_2) fun x_3 =>
  K (.int .i64 x_3) m))
theorem e101 (C : CallT) (t0 : Nat) (i1 : Int) (K : Value → Mem → Prop) (m : Mem) : evFn Tryz.prog pureF pureT C [] 101 [(ptr t0 0), (.int .i64 i1)] K m = s101 C t0 i1 K m := by kernel_rfl
theorem call101 {W0 : World} {t0 : Nat} {i1 : Int} {K : Value → Mem → Prop} {m : Mem} (h : s101 (callOK Tryz.prog W0) t0 i1 K m) : callOK Tryz.prog W0 101 [(ptr t0 0), (.int .i64 i1)] K m :=
  evFn_sound pureOk mixedP (fun w => Tryz.call101 _ w) ((e101 (callOK Tryz.prog W0) t0 i1 K m).symm ▸ h)

def s102 (C : CallT) (w0 : Nat) (p1 : Int) (K : Value → Mem → Prop) (m : Mem) : Prop :=
  ckI (goCode (IntKind.wrap .i64 (0 - p1))) 26 fun j_1 =>
  ldInt .u64 m w0 (680 + j_1) fun x_2 =>
  loopE [0, 1, 4, 6, 7] (evCode (cfgOf Tryz.prog pureF pureT C [(4, [0, 1, 4, 6, 7])] 102) (codeAt (bodyOf Tryz.prog 102) [1, 1, 1, 0, 1, 0, 0])) (kAt (cfgOf Tryz.prog pureF pureT C [(4, [0, 1, 4, 6, 7])] 102) (bodyOf Tryz.prog 102) [1, 1, 1, 0, 1, 0] (endK Tryz.prog 102 K)) [(0, (ptr w0 0)), (1, (.int .i64 p1)), (4, (.int .i64 0)), (6, (.int .u64 x_2)), (7, (.int .i64 0))] m
theorem e102 (C : CallT) (w0 : Nat) (p1 : Int) (K : Value → Mem → Prop) (m : Mem) : evFn Tryz.prog pureF pureT C [(4, [0, 1, 4, 6, 7])] 102 [(ptr w0 0), (.int .i64 p1)] K m = s102 C w0 p1 K m := by kernel_rfl
theorem call102 {W0 : World} {w0 : Nat} {p1 : Int} {K : Value → Mem → Prop} {m : Mem} (h : s102 (callOK Tryz.prog W0) w0 p1 K m) : callOK Tryz.prog W0 102 [(ptr w0 0), (.int .i64 p1)] K m :=
  evFn_sound pureOk mixedP (fun w => Tryz.call102 _ w) ((e102 (callOK Tryz.prog W0) w0 p1 K m).symm ▸ h)
def s102_1 (C : CallT) (w0 : Nat) (p1 : Int) (t4 : Int) (todo6 : Int) (id7 : Int) (Kt : Exit → Fr → Mem → Prop) (m : Mem) : Prop :=
  ifB (decide (id7 < 52))
  (ifB (goHas todo6 id7)
  (C 138 [(ptr w0 0), (.int .i64 id7), (.int .i64 p1)] (fun rm_4 m_4 =>
  ∃ x_3, rm_4 = (.int .i64 x_3) ∧
  ifB (decide (x_3 ≥ 0))
  (Kt .ret [(0, (ptr w0 0)), (1, (.int .i64 p1)), (4, (.int .i64 x_3)), (6, (.int .u64 todo6)), (7, (.int .i64 id7))] m_4)
  (Kt .normal [(0, (ptr w0 0)), (1, (.int .i64 p1)), (4, (.int .i64 t4)), (6, (.int .u64 todo6)), (7, (.int .i64 (IntKind.wrap .i64 (id7 + 1))))] m_4)) m)
  (Kt .normal [(0, (ptr w0 0)), (1, (.int .i64 p1)), (4, (.int .i64 t4)), (6, (.int .u64 todo6)), (7, (.int .i64 (IntKind.wrap .i64 (id7 + 1))))] m))
  (Kt (.exit 0) [(0, (ptr w0 0)), (1, (.int .i64 p1)), (4, (.int .i64 t4)), (6, (.int .u64 todo6)), (7, (.int .i64 id7))] m)
theorem e102_1 {C : CallT} {w0 : Nat} {p1 : Int} {t4 : Int} {todo6 : Int} {id7 : Int} {Kt : Exit → Fr → Mem → Prop} {m : Mem} (h : s102_1 C w0 p1 t4 todo6 id7 Kt m) : evCode (cfgOf Tryz.prog pureF pureT C [(4, [0, 1, 4, 6, 7])] 102) (codeAt (bodyOf Tryz.prog 102) [1, 1, 1, 0, 1, 0, 0]) (trimK [0, 1, 4, 6, 7] Kt) [(0, (ptr w0 0)), (1, (.int .i64 p1)), (4, (.int .i64 t4)), (6, (.int .u64 todo6)), (7, (.int .i64 id7))] m :=
  (show _ = _ by kernel_rfl : evCode (cfgOf Tryz.prog pureF pureT C [(4, [0, 1, 4, 6, 7])] 102) (codeAt (bodyOf Tryz.prog 102) [1, 1, 1, 0, 1, 0, 0]) (trimK [0, 1, 4, 6, 7] Kt) [(0, (ptr w0 0)), (1, (.int .i64 p1)), (4, (.int .i64 t4)), (6, (.int .u64 todo6)), (7, (.int .i64 id7))] m = s102_1 C w0 p1 t4 todo6 id7 Kt m).symm ▸ h
def s102_1r (C : CallT) (w0 : Nat) (p1 : Int) (t4 : Int) (todo6 : Int) (id7 : Int) (K : Value → Mem → Prop) (m : Mem) : Prop :=
  K (.int .i64 t4) m
theorem e102_1r {C : CallT} {kn : Fr → Mem → Prop} {w0 : Nat} {p1 : Int} {t4 : Int} {todo6 : Int} {id7 : Int} {K : Value → Mem → Prop} {m : Mem} : (andThenE kn (kAt (cfgOf Tryz.prog pureF pureT C [(4, [0, 1, 4, 6, 7])] 102) (bodyOf Tryz.prog 102) [1, 1, 1, 0, 1, 0] (endK Tryz.prog 102 K)) .ret [(0, (ptr w0 0)), (1, (.int .i64 p1)), (4, (.int .i64 t4)), (6, (.int .u64 todo6)), (7, (.int .i64 id7))] m) = s102_1r C w0 p1 t4 todo6 id7 K m := by kernel_rfl
def s102_1x0 (C : CallT) (w0 : Nat) (p1 : Int) (t4 : Int) (todo6 : Int) (id7 : Int) (K : Value → Mem → Prop) (m : Mem) : Prop :=
  K (.int .i64 (-1)) m
theorem e102_1x0 {C : CallT} {kn : Fr → Mem → Prop} {w0 : Nat} {p1 : Int} {t4 : Int} {todo6 : Int} {id7 : Int} {K : Value → Mem → Prop} {m : Mem} : (andThenE kn (kAt (cfgOf Tryz.prog pureF pureT C [(4, [0, 1, 4, 6, 7])] 102) (bodyOf Tryz.prog 102) [1, 1, 1, 0, 1, 0] (endK Tryz.prog 102 K)) (.exit 0) [(0, (ptr w0 0)), (1, (.int .i64 p1)), (4, (.int .i64 t4)), (6, (.int .u64 todo6)), (7, (.int .i64 id7))] m) = s102_1x0 C w0 p1 t4 todo6 id7 K m := by kernel_rfl
def F102_1 (w0 : Nat) (p1 : Int) (t4 : Int) (todo6 : Int) (id7 : Int) : Fr := [(0, (ptr w0 0)), (1, (.int .i64 p1)), (4, (.int .i64 t4)), (6, (.int .u64 todo6)), (7, (.int .i64 id7))]
theorem loop102_1 {C : CallT} {γ : Type} {w0 : Nat} {p1 : Int} {todo6 : Int} {K : Value → Mem → Prop} {m : Mem} (J : γ → Int → Int → Mem → Prop) (μ : γ → Int → Int → Nat) (g : γ) {t4 : Int} {id7 : Int} (hJ : J g t4 id7 m)
    (hs : ∀ g t4 id7 m, J g t4 id7 m → s102_1 C w0 p1 t4 todo6 id7 (andThenE (fun fr m' => ∃ g' t4' id7', fr = F102_1 w0 p1 t4' todo6 id7' ∧ J g' t4' id7' m' ∧ μ g' t4' id7' < μ g t4 id7) (kAt (cfgOf Tryz.prog pureF pureT C [(4, [0, 1, 4, 6, 7])] 102) (bodyOf Tryz.prog 102) [1, 1, 1, 0, 1, 0] (endK Tryz.prog 102 K))) m) :
    loopE [0, 1, 4, 6, 7] (evCode (cfgOf Tryz.prog pureF pureT C [(4, [0, 1, 4, 6, 7])] 102) (codeAt (bodyOf Tryz.prog 102) [1, 1, 1, 0, 1, 0, 0])) (kAt (cfgOf Tryz.prog pureF pureT C [(4, [0, 1, 4, 6, 7])] 102) (bodyOf Tryz.prog 102) [1, 1, 1, 0, 1, 0] (endK Tryz.prog 102 K)) [(0, (ptr w0 0)), (1, (.int .i64 p1)), (4, (.int .i64 t4)), (6, (.int .u64 todo6)), (7, (.int .i64 id7))] m := by
  refine loop_rule (σ := γ × Int × Int) (fun s => F102_1 w0 p1 s.2.1 todo6 s.2.2) (fun s m => J s.1 s.2.1 s.2.2 m) (fun s => μ s.1 s.2.1 s.2.2) (g, t4, id7) rfl hJ ?_
  intro s m hJ
  have h := hs s.1 s.2.1 s.2.2 m hJ
  refine e102_1 ?_
  refine Eq.mp (congrArg (fun B => s102_1 C w0 p1 s.2.1 todo6 s.2.2 (andThenE B (kAt (cfgOf Tryz.prog pureF pureT C [(4, [0, 1, 4, 6, 7])] 102) (bodyOf Tryz.prog 102) [1, 1, 1, 0, 1, 0] (endK Tryz.prog 102 K))) m) ?_) h
  funext fr m'
  apply propext
  constructor
  · rintro ⟨g', t4', id7', h1, h2, h3⟩
    exact ⟨(g', t4', id7'), h1, h2, h3⟩
  · rintro ⟨⟨g', t4', id7'⟩, h1, h2, h3⟩
    exact ⟨g', t4', id7', h1, h2, h3⟩

def s103 (C : CallT) (t0 : Nat) (K : Value → Mem → Prop) (m : Mem) : Prop :=
  ldInt .i64 m t0 13 fun x_1 =>
  ldInt .i64 m t0 12 fun x_2 =>
  ifB (decide (x_1 ≥ x_2))
  (K (.int .i64 0) m)
  (ldInt .i64 m t0 13 fun x_3 =>
  ckI x_3 12 fun j_4 =>
  ldInt .i64 m t0 (0 + j_4) fun x_5 =>
  ldInt .i64 m t0 13 fun x_6 =>
  st m t0 13 (.int .i64 (IntKind.wrap .i64 (x_6 + 1))) fun m_7 =>
  K (.int .i64 x_5) m_7)
theorem e103 (C : CallT) (t0 : Nat) (K : Value → Mem → Prop) (m : Mem) : evFn Tryz.prog pureF pureT C [] 103 [(ptr t0 0)] K m = s103 C t0 K m := by kernel_rfl
theorem call103 {W0 : World} {t0 : Nat} {K : Value → Mem → Prop} {m : Mem} (h : s103 (callOK Tryz.prog W0) t0 K m) : callOK Tryz.prog W0 103 [(ptr t0 0)] K m :=
  evFn_sound pureOk mixedP (fun w => Tryz.call103 _ w) ((e103 (callOK Tryz.prog W0) t0 K m).symm ▸ h)

def s104 (C : CallT) (a0 : Nat) (c1a : Option Addr) (c1l c1c : Nat) (K : Value → Mem → Prop) (m : Mem) : Prop :=
  loopE [0, 1, 4, 5] (evCode (cfgOf Tryz.prog pureF pureT C [(2, [0, 1, 4, 5])] 104) (codeAt (bodyOf Tryz.prog 104) [1, 0, 1, 0, 0])) (kAt (cfgOf Tryz.prog pureF pureT C [(2, [0, 1, 4, 5])] 104) (bodyOf Tryz.prog 104) [1, 0, 1, 0] (endK Tryz.prog 104 K)) [(0, (ptr a0 0)), (1, (.slice c1a c1l c1c)), (4, (.bool false)), (5, (.int .i64 0))] m
theorem e104 (C : CallT) (a0 : Nat) (c1a : Option Addr) (c1l c1c : Nat) (K : Value → Mem → Prop) (m : Mem) : evFn Tryz.prog pureF pureT C [(2, [0, 1, 4, 5])] 104 [(ptr a0 0), (.slice c1a c1l c1c)] K m = s104 C a0 c1a c1l c1c K m := by kernel_rfl
theorem call104 {W0 : World} {a0 : Nat} {c1a : Option Addr} {c1l c1c : Nat} {K : Value → Mem → Prop} {m : Mem} (h : s104 (callOK Tryz.prog W0) a0 c1a c1l c1c K m) : callOK Tryz.prog W0 104 [(ptr a0 0), (.slice c1a c1l c1c)] K m :=
  evFn_sound pureOk mixedP (fun w => Tryz.call104 _ w) ((e104 (callOK Tryz.prog W0) a0 c1a c1l c1c K m).symm ▸ h)
def s104_1 (C : CallT) (a0 : Nat) (c1a : Option Addr) (c1l c1c : Nat) (t4 : Bool) (i5 : Int) (Kt : Exit → Fr → Mem → Prop) (m : Mem) : Prop :=
  ifB (decide (i5 < ((c1l : Nat) : Int)))
  (ldPtr m a0 0 fun p_1 =>
  ckP c1a fun b_2 o_2 =>
  ckI i5 c1l fun j_3 =>
  ldInt .i64 m b_2 (o_2 + j_3) fun x_4 =>
  C 65 [(.pointer p_1), (.int .i64 x_4)] (fun rm_6 m_6 =>
  ∃ x_5, rm_6 = (.int .i64 x_5) ∧
  ifB (x_5 != (-1))
  (Kt .ret [(0, (ptr a0 0)), (1, (.slice c1a c1l c1c)), (4, (.bool false)), (5, (.int .i64 i5))] m_6)
  (Kt .normal [(0, (ptr a0 0)), (1, (.slice c1a c1l c1c)), (4, (.bool t4)), (5, (.int .i64 (IntKind.wrap .i64 (i5 + 1))))] m_6)) m)
  (Kt (.exit 0) [(0, (ptr a0 0)), (1, (.slice c1a c1l c1c)), (4, (.bool t4)), (5, (.int .i64 i5))] m)
theorem e104_1 {C : CallT} {a0 : Nat} {c1a : Option Addr} {c1l c1c : Nat} {t4 : Bool} {i5 : Int} {Kt : Exit → Fr → Mem → Prop} {m : Mem} (h : s104_1 C a0 c1a c1l c1c t4 i5 Kt m) : evCode (cfgOf Tryz.prog pureF pureT C [(2, [0, 1, 4, 5])] 104) (codeAt (bodyOf Tryz.prog 104) [1, 0, 1, 0, 0]) (trimK [0, 1, 4, 5] Kt) [(0, (ptr a0 0)), (1, (.slice c1a c1l c1c)), (4, (.bool t4)), (5, (.int .i64 i5))] m :=
  (show _ = _ by kernel_rfl : evCode (cfgOf Tryz.prog pureF pureT C [(2, [0, 1, 4, 5])] 104) (codeAt (bodyOf Tryz.prog 104) [1, 0, 1, 0, 0]) (trimK [0, 1, 4, 5] Kt) [(0, (ptr a0 0)), (1, (.slice c1a c1l c1c)), (4, (.bool t4)), (5, (.int .i64 i5))] m = s104_1 C a0 c1a c1l c1c t4 i5 Kt m).symm ▸ h
def s104_1r (C : CallT) (a0 : Nat) (c1a : Option Addr) (c1l c1c : Nat) (t4 : Bool) (i5 : Int) (K : Value → Mem → Prop) (m : Mem) : Prop :=
  K (.bool t4) m
theorem e104_1r {C : CallT} {kn : Fr → Mem → Prop} {a0 : Nat} {c1a : Option Addr} {c1l c1c : Nat} {t4 : Bool} {i5 : Int} {K : Value → Mem → Prop} {m : Mem} : (andThenE kn (kAt (cfgOf Tryz.prog pureF pureT C [(2, [0, 1, 4, 5])] 104) (bodyOf Tryz.prog 104) [1, 0, 1, 0] (endK Tryz.prog 104 K)) .ret [(0, (ptr a0 0)), (1, (.slice c1a c1l c1c)), (4, (.bool t4)), (5, (.int .i64 i5))] m) = s104_1r C a0 c1a c1l c1c t4 i5 K m := by kernel_rfl
def s104_1x0 (C : CallT) (a0 : Nat) (c1a : Option Addr) (c1l c1c : Nat) (t4 : Bool) (i5 : Int) (K : Value → Mem → Prop) (m : Mem) : Prop :=
  K (.bool true) m
theorem e104_1x0 {C : CallT} {kn : Fr → Mem → Prop} {a0 : Nat} {c1a : Option Addr} {c1l c1c : Nat} {t4 : Bool} {i5 : Int} {K : Value → Mem → Prop} {m : Mem} : (andThenE kn (kAt (cfgOf Tryz.prog pureF pureT C [(2, [0, 1, 4, 5])] 104) (bodyOf Tryz.prog 104) [1, 0, 1, 0] (endK Tryz.prog 104 K)) (.exit 0) [(0, (ptr a0 0)), (1, (.slice c1a c1l c1c)), (4, (.bool t4)), (5, (.int .i64 i5))] m) = s104_1x0 C a0 c1a c1l c1c t4 i5 K m := by kernel_rfl
def F104_1 (a0 : Nat) (c1a : Option Addr) (c1l c1c : Nat) (t4 : Bool) (i5 : Int) : Fr := [(0, (ptr a0 0)), (1, (.slice c1a c1l c1c)), (4, (.bool t4)), (5, (.int .i64 i5))]
theorem loop104_1 {C : CallT} {γ : Type} {a0 : Nat} {c1a : Option Addr} {c1l c1c : Nat} {K : Value → Mem → Prop} {m : Mem} (J : γ → Bool → Int → Mem → Prop) (μ : γ → Bool → Int → Nat) (g : γ) {t4 : Bool} {i5 : Int} (hJ : J g t4 i5 m)
    (hs : ∀ g t4 i5 m, J g t4 i5 m → s104_1 C a0 c1a c1l c1c t4 i5 (andThenE (fun fr m' => ∃ g' t4' i5', fr = F104_1 a0 c1a c1l c1c t4' i5' ∧ J g' t4' i5' m' ∧ μ g' t4' i5' < μ g t4 i5) (kAt (cfgOf Tryz.prog pureF pureT C [(2, [0, 1, 4, 5])] 104) (bodyOf Tryz.prog 104) [1, 0, 1, 0] (endK Tryz.prog 104 K))) m) :
    loopE [0, 1, 4, 5] (evCode (cfgOf Tryz.prog pureF pureT C [(2, [0, 1, 4, 5])] 104) (codeAt (bodyOf Tryz.prog 104) [1, 0, 1, 0, 0])) (kAt (cfgOf Tryz.prog pureF pureT C [(2, [0, 1, 4, 5])] 104) (bodyOf Tryz.prog 104) [1, 0, 1, 0] (endK Tryz.prog 104 K)) [(0, (ptr a0 0)), (1, (.slice c1a c1l c1c)), (4, (.bool t4)), (5, (.int .i64 i5))] m := by
  refine loop_rule (σ := γ × Bool × Int) (fun s => F104_1 a0 c1a c1l c1c s.2.1 s.2.2) (fun s m => J s.1 s.2.1 s.2.2 m) (fun s => μ s.1 s.2.1 s.2.2) (g, t4, i5) rfl hJ ?_
  intro s m hJ
  have h := hs s.1 s.2.1 s.2.2 m hJ
  refine e104_1 ?_
  refine Eq.mp (congrArg (fun B => s104_1 C a0 c1a c1l c1c s.2.1 s.2.2 (andThenE B (kAt (cfgOf Tryz.prog pureF pureT C [(2, [0, 1, 4, 5])] 104) (bodyOf Tryz.prog 104) [1, 0, 1, 0] (endK Tryz.prog 104 K))) m) ?_) h
  funext fr m'
  apply propext
  constructor
  · rintro ⟨g', t4', i5', h1, h2, h3⟩
    exact ⟨(g', t4', i5'), h1, h2, h3⟩
  · rintro ⟨⟨g', t4', i5'⟩, h1, h2, h3⟩
    exact ⟨g', t4', i5', h1, h2, h3⟩

def s105 (C : CallT) (t0 : Nat) (K : Value → Mem → Prop) (m : Mem) : Prop :=
  ldInt .i64 m t0 14 fun x_1 =>
  K (.int .i64 x_1) m
theorem e105 (C : CallT) (t0 : Nat) (K : Value → Mem → Prop) (m : Mem) : evFn Tryz.prog pureF pureT C [] 105 [(ptr t0 0)] K m = s105 C t0 K m := by kernel_rfl
theorem call105 {W0 : World} {t0 : Nat} {K : Value → Mem → Prop} {m : Mem} (h : s105 (callOK Tryz.prog W0) t0 K m) : callOK Tryz.prog W0 105 [(ptr t0 0)] K m :=
  evFn_sound pureOk mixedP (fun w => Tryz.call105 _ w) ((e105 (callOK Tryz.prog W0) t0 K m).symm ▸ h)

def s106 (C : CallT) (a0 : Nat) (e1 : Int) (K : Value → Mem → Prop) (m : Mem) : Prop :=
  allocB m (zeroBlk Tryz.prog 123) fun b_1 m_2 =>
  C 111 [(ptr a0 0)] (fun rm_3 m_3 =>
  rm_3 = (.tuple #[]) ∧
  stL m_3 b_1 0 [(.int .i64 e1), (.slice none 0 0), (.int .i64 0), (.int .i64 0)] fun m_4 =>
  ldInt .i64 m_4 b_1 0 fun x_5 =>
  ldSl m_4 b_1 1 fun l_6a l_6l l_6c =>
  ldInt .i64 m_4 b_1 2 fun x_7 =>
  ldInt .i64 m_4 b_1 3 fun x_8 =>
  K (.agg #[(.int .i64 x_5), (.slice l_6a l_6l l_6c), (.int .i64 x_7), (.int .i64 x_8)]) m_4) m_2
theorem e106 (C : CallT) (a0 : Nat) (e1 : Int) (K : Value → Mem → Prop) (m : Mem) : evFn Tryz.prog pureF pureT C [] 106 [(ptr a0 0), (.int .i64 e1)] K m = s106 C a0 e1 K m := by kernel_rfl
theorem call106 {W0 : World} {a0 : Nat} {e1 : Int} {K : Value → Mem → Prop} {m : Mem} (h : s106 (callOK Tryz.prog W0) a0 e1 K m) : callOK Tryz.prog W0 106 [(ptr a0 0), (.int .i64 e1)] K m :=
  evFn_sound pureOk mixedP (fun w => Tryz.call106 _ w) ((e106 (callOK Tryz.prog W0) a0 e1 K m).symm ▸ h)

def s107 (C : CallT) (a0 : Nat) (c1a : Option Addr) (c1l c1c : Nat) (K : Value → Mem → Prop) (m : Mem) : Prop :=
  loopE [0, 1, 4, 5] (evCode (cfgOf Tryz.prog pureF pureT C [(2, [0, 1, 4, 5])] 107) (codeAt (bodyOf Tryz.prog 107) [1, 0, 1, 0, 0])) (kAt (cfgOf Tryz.prog pureF pureT C [(2, [0, 1, 4, 5])] 107) (bodyOf Tryz.prog 107) [1, 0, 1, 0] (endK Tryz.prog 107 K)) [(0, (ptr a0 0)), (1, (.slice c1a c1l c1c)), (4, (.bool false)), (5, (.int .i64 0))] m
theorem e107 (C : CallT) (a0 : Nat) (c1a : Option Addr) (c1l c1c : Nat) (K : Value → Mem → Prop) (m : Mem) : evFn Tryz.prog pureF pureT C [(2, [0, 1, 4, 5])] 107 [(ptr a0 0), (.slice c1a c1l c1c)] K m = s107 C a0 c1a c1l c1c K m := by kernel_rfl
theorem call107 {W0 : World} {a0 : Nat} {c1a : Option Addr} {c1l c1c : Nat} {K : Value → Mem → Prop} {m : Mem} (h : s107 (callOK Tryz.prog W0) a0 c1a c1l c1c K m) : callOK Tryz.prog W0 107 [(ptr a0 0), (.slice c1a c1l c1c)] K m :=
  evFn_sound pureOk mixedP (fun w => Tryz.call107 _ w) ((e107 (callOK Tryz.prog W0) a0 c1a c1l c1c K m).symm ▸ h)
def s107_1 (C : CallT) (a0 : Nat) (c1a : Option Addr) (c1l c1c : Nat) (t4 : Bool) (i5 : Int) (Kt : Exit → Fr → Mem → Prop) (m : Mem) : Prop :=
  ifB (decide (i5 < ((c1l : Nat) : Int)))
  (ckP c1a fun b_1 o_1 =>
  ckI i5 c1l fun j_2 =>
  ldInt .i64 m b_1 (o_1 + j_2) fun x_3 =>
  C 139 [(ptr a0 0), (.int .i64 x_3)] (fun rm_5 m_5 =>
  ∃ x_4, rm_5 = (.bool x_4) ∧
  ifB (!x_4)
  (Kt .ret [(0, (ptr a0 0)), (1, (.slice c1a c1l c1c)), (4, (.bool false)), (5, (.int .i64 i5))] m_5)
  (Kt .normal [(0, (ptr a0 0)), (1, (.slice c1a c1l c1c)), (4, (.bool t4)), (5, (.int .i64 (IntKind.wrap .i64 (i5 + 1))))] m_5)) m)
  (Kt (.exit 0) [(0, (ptr a0 0)), (1, (.slice c1a c1l c1c)), (4, (.bool t4)), (5, (.int .i64 i5))] m)
theorem e107_1 {C : CallT} {a0 : Nat} {c1a : Option Addr} {c1l c1c : Nat} {t4 : Bool} {i5 : Int} {Kt : Exit → Fr → Mem → Prop} {m : Mem} (h : s107_1 C a0 c1a c1l c1c t4 i5 Kt m) : evCode (cfgOf Tryz.prog pureF pureT C [(2, [0, 1, 4, 5])] 107) (codeAt (bodyOf Tryz.prog 107) [1, 0, 1, 0, 0]) (trimK [0, 1, 4, 5] Kt) [(0, (ptr a0 0)), (1, (.slice c1a c1l c1c)), (4, (.bool t4)), (5, (.int .i64 i5))] m :=
  (show _ = _ by kernel_rfl : evCode (cfgOf Tryz.prog pureF pureT C [(2, [0, 1, 4, 5])] 107) (codeAt (bodyOf Tryz.prog 107) [1, 0, 1, 0, 0]) (trimK [0, 1, 4, 5] Kt) [(0, (ptr a0 0)), (1, (.slice c1a c1l c1c)), (4, (.bool t4)), (5, (.int .i64 i5))] m = s107_1 C a0 c1a c1l c1c t4 i5 Kt m).symm ▸ h
def s107_1r (C : CallT) (a0 : Nat) (c1a : Option Addr) (c1l c1c : Nat) (t4 : Bool) (i5 : Int) (K : Value → Mem → Prop) (m : Mem) : Prop :=
  K (.bool t4) m
theorem e107_1r {C : CallT} {kn : Fr → Mem → Prop} {a0 : Nat} {c1a : Option Addr} {c1l c1c : Nat} {t4 : Bool} {i5 : Int} {K : Value → Mem → Prop} {m : Mem} : (andThenE kn (kAt (cfgOf Tryz.prog pureF pureT C [(2, [0, 1, 4, 5])] 107) (bodyOf Tryz.prog 107) [1, 0, 1, 0] (endK Tryz.prog 107 K)) .ret [(0, (ptr a0 0)), (1, (.slice c1a c1l c1c)), (4, (.bool t4)), (5, (.int .i64 i5))] m) = s107_1r C a0 c1a c1l c1c t4 i5 K m := by kernel_rfl
def s107_1x0 (C : CallT) (a0 : Nat) (c1a : Option Addr) (c1l c1c : Nat) (t4 : Bool) (i5 : Int) (K : Value → Mem → Prop) (m : Mem) : Prop :=
  K (.bool true) m
theorem e107_1x0 {C : CallT} {kn : Fr → Mem → Prop} {a0 : Nat} {c1a : Option Addr} {c1l c1c : Nat} {t4 : Bool} {i5 : Int} {K : Value → Mem → Prop} {m : Mem} : (andThenE kn (kAt (cfgOf Tryz.prog pureF pureT C [(2, [0, 1, 4, 5])] 107) (bodyOf Tryz.prog 107) [1, 0, 1, 0] (endK Tryz.prog 107 K)) (.exit 0) [(0, (ptr a0 0)), (1, (.slice c1a c1l c1c)), (4, (.bool t4)), (5, (.int .i64 i5))] m) = s107_1x0 C a0 c1a c1l c1c t4 i5 K m := by kernel_rfl
def F107_1 (a0 : Nat) (c1a : Option Addr) (c1l c1c : Nat) (t4 : Bool) (i5 : Int) : Fr := [(0, (ptr a0 0)), (1, (.slice c1a c1l c1c)), (4, (.bool t4)), (5, (.int .i64 i5))]
theorem loop107_1 {C : CallT} {γ : Type} {a0 : Nat} {c1a : Option Addr} {c1l c1c : Nat} {K : Value → Mem → Prop} {m : Mem} (J : γ → Bool → Int → Mem → Prop) (μ : γ → Bool → Int → Nat) (g : γ) {t4 : Bool} {i5 : Int} (hJ : J g t4 i5 m)
    (hs : ∀ g t4 i5 m, J g t4 i5 m → s107_1 C a0 c1a c1l c1c t4 i5 (andThenE (fun fr m' => ∃ g' t4' i5', fr = F107_1 a0 c1a c1l c1c t4' i5' ∧ J g' t4' i5' m' ∧ μ g' t4' i5' < μ g t4 i5) (kAt (cfgOf Tryz.prog pureF pureT C [(2, [0, 1, 4, 5])] 107) (bodyOf Tryz.prog 107) [1, 0, 1, 0] (endK Tryz.prog 107 K))) m) :
    loopE [0, 1, 4, 5] (evCode (cfgOf Tryz.prog pureF pureT C [(2, [0, 1, 4, 5])] 107) (codeAt (bodyOf Tryz.prog 107) [1, 0, 1, 0, 0])) (kAt (cfgOf Tryz.prog pureF pureT C [(2, [0, 1, 4, 5])] 107) (bodyOf Tryz.prog 107) [1, 0, 1, 0] (endK Tryz.prog 107 K)) [(0, (ptr a0 0)), (1, (.slice c1a c1l c1c)), (4, (.bool t4)), (5, (.int .i64 i5))] m := by
  refine loop_rule (σ := γ × Bool × Int) (fun s => F107_1 a0 c1a c1l c1c s.2.1 s.2.2) (fun s m => J s.1 s.2.1 s.2.2 m) (fun s => μ s.1 s.2.1 s.2.2) (g, t4, i5) rfl hJ ?_
  intro s m hJ
  have h := hs s.1 s.2.1 s.2.2 m hJ
  refine e107_1 ?_
  refine Eq.mp (congrArg (fun B => s107_1 C a0 c1a c1l c1c s.2.1 s.2.2 (andThenE B (kAt (cfgOf Tryz.prog pureF pureT C [(2, [0, 1, 4, 5])] 107) (bodyOf Tryz.prog 107) [1, 0, 1, 0] (endK Tryz.prog 107 K))) m) ?_) h
  funext fr m'
  apply propext
  constructor
  · rintro ⟨g', t4', i5', h1, h2, h3⟩
    exact ⟨(g', t4', i5'), h1, h2, h3⟩
  · rintro ⟨⟨g', t4', i5'⟩, h1, h2, h3⟩
    exact ⟨g', t4', i5', h1, h2, h3⟩

def s108 (C : CallT) (a0 : Nat) (K : Value → Mem → Prop) (m : Mem) : Prop :=
  ldPtr m a0 0 fun p_1 =>
  C 32 [(.pointer p_1)] (fun rm_3 m_3 =>
  ∃ x_2, rm_3 = (.int .i64 x_2) ∧
  loopE [0, 2, 4] (evCode (cfgOf Tryz.prog pureF pureT C [(3, [0, 2, 4])] 108) (codeAt (bodyOf Tryz.prog 108) [1, 1, 0, 1, 0, 0])) (kAt (cfgOf Tryz.prog pureF pureT C [(3, [0, 2, 4])] 108) (bodyOf Tryz.prog 108) [1, 1, 0, 1, 0] (endK Tryz.prog 108 K)) [(0, (ptr a0 0)), (2, (.int .i64 0)), (4, (.int .i64 (IntKind.wrap .i64 (x_2 - 1))))] m_3) m
theorem e108 (C : CallT) (a0 : Nat) (K : Value → Mem → Prop) (m : Mem) : evFn Tryz.prog pureF pureT C [(3, [0, 2, 4])] 108 [(ptr a0 0)] K m = s108 C a0 K m := by kernel_rfl
theorem call108 {W0 : World} {a0 : Nat} {K : Value → Mem → Prop} {m : Mem} (h : s108 (callOK Tryz.prog W0) a0 K m) : callOK Tryz.prog W0 108 [(ptr a0 0)] K m :=
  evFn_sound pureOk mixedP (fun w => Tryz.call108 _ w) ((e108 (callOK Tryz.prog W0) a0 K m).symm ▸ h)
def s108_1 (C : CallT) (a0 : Nat) (t2 : Int) (i4 : Int) (Kt : Exit → Fr → Mem → Prop) (m : Mem) : Prop :=
  ifB (decide (i4 ≥ 0))
  (ldPtr m a0 0 fun p_4 =>
  C 101 [(.pointer p_4), (.int .i64 i4)] (fun rm_6 m_6 =>
  ∃ x_5, rm_6 = (.int .i64 x_5) ∧
  ldInt .u16 m_6 a0 2 fun x_7 =>
  ifB ((bAnd .u16 x_7 (goBit16 (goVar x_5))) != 0)
  (ldPtr m_6 a0 0 fun p_8 =>
  C 112 [(.pointer p_8), (.int .i64 (goVar x_5))] (fun rm_10 m_10 =>
  ∃ x_9, rm_10 = (.int .i64 x_9) ∧
  ldInt .i64 m_10 a0 6 fun x_11 =>
  ifB (x_9 == x_11)
  (ldInt .i64 m_10 a0 5 fun x_12 =>
  st m_10 a0 5 (.int .i64 (IntKind.wrap .i64 (x_12 - 1))) fun m_13 =>
  ldInt .i64 m_13 a0 5 fun x_14 =>
  ifB (x_14 == 0)
  (Kt .ret [(0, (ptr a0 0)), (2, (.int .i64 x_5)), (4, (.int .i64 i4))] m_13)
  (ldPtr m_13 a0 0 fun p_15 =>
  C 141 [(.pointer p_15), (.int .i64 (goVar x_5))] (fun rm_17 m_17 =>
  ∃ x_16, rm_17 = (.int .i64 x_16) ∧
  ldPtr m_17 a0 1 fun p_18 =>
  C 46 [(.pointer p_18), (.int .i64 x_16)] (fun rm_21 m_21 =>
  ∃ x_19a x_19l x_19c x_20, rm_21 = (.tuple #[(.slice x_19a x_19l x_19c), (.int .i64 x_20)]) ∧
  ifB (x_20 != 0)
  (Kt .ret [(0, (ptr a0 0)), (2, (.int .i64 0)), (4, (.int .i64 i4))] m_21)
  (C 107 [(ptr a0 0), (.slice x_19a x_19l x_19c)] (fun rm_23 m_23 =>
  ∃ x_22, rm_23 = (.bool x_22) ∧
  ifB (!x_22)
  (Kt .ret [(0, (ptr a0 0)), (2, (.int .i64 0)), (4, (.int .i64 i4))] m_23)
  (Kt .normal [(0, (ptr a0 0)), (2, (.int .i64 t2)), (4, (.int .i64 (IntKind.wrap .i64 (i4 - 1))))] m_23)) m_21)) m_17) m_13))
  (Kt .normal [(0, (ptr a0 0)), (2, (.int .i64 t2)), (4, (.int .i64 (IntKind.wrap .i64 (i4 - 1))))] m_10)) m_6)
  (Kt .normal [(0, (ptr a0 0)), (2, (.int .i64 t2)), (4, (.int .i64 (IntKind.wrap .i64 (i4 - 1))))] m_6)) m)
  (Kt (.exit 0) [(0, (ptr a0 0)), (2, (.int .i64 t2)), (4, (.int .i64 i4))] m)
theorem e108_1 {C : CallT} {a0 : Nat} {t2 : Int} {i4 : Int} {Kt : Exit → Fr → Mem → Prop} {m : Mem} (h : s108_1 C a0 t2 i4 Kt m) : evCode (cfgOf Tryz.prog pureF pureT C [(3, [0, 2, 4])] 108) (codeAt (bodyOf Tryz.prog 108) [1, 1, 0, 1, 0, 0]) (trimK [0, 2, 4] Kt) [(0, (ptr a0 0)), (2, (.int .i64 t2)), (4, (.int .i64 i4))] m :=
  (show _ = _ by kernel_rfl : evCode (cfgOf Tryz.prog pureF pureT C [(3, [0, 2, 4])] 108) (codeAt (bodyOf Tryz.prog 108) [1, 1, 0, 1, 0, 0]) (trimK [0, 2, 4] Kt) [(0, (ptr a0 0)), (2, (.int .i64 t2)), (4, (.int .i64 i4))] m = s108_1 C a0 t2 i4 Kt m).symm ▸ h
def s108_1r (C : CallT) (a0 : Nat) (t2 : Int) (i4 : Int) (K : Value → Mem → Prop) (m : Mem) : Prop :=
  K (.int .i64 t2) m
theorem e108_1r {C : CallT} {kn : Fr → Mem → Prop} {a0 : Nat} {t2 : Int} {i4 : Int} {K : Value → Mem → Prop} {m : Mem} : (andThenE kn (kAt (cfgOf Tryz.prog pureF pureT C [(3, [0, 2, 4])] 108) (bodyOf Tryz.prog 108) [1, 1, 0, 1, 0] (endK Tryz.prog 108 K)) .ret [(0, (ptr a0 0)), (2, (.int .i64 t2)), (4, (.int .i64 i4))] m) = s108_1r C a0 t2 i4 K m := by kernel_rfl
def s108_1x0 (C : CallT) (a0 : Nat) (t2 : Int) (i4 : Int) (K : Value → Mem → Prop) (m : Mem) : Prop :=
  K (.int .i64 0) m
theorem e108_1x0 {C : CallT} {kn : Fr → Mem → Prop} {a0 : Nat} {t2 : Int} {i4 : Int} {K : Value → Mem → Prop} {m : Mem} : (andThenE kn (kAt (cfgOf Tryz.prog pureF pureT C [(3, [0, 2, 4])] 108) (bodyOf Tryz.prog 108) [1, 1, 0, 1, 0] (endK Tryz.prog 108 K)) (.exit 0) [(0, (ptr a0 0)), (2, (.int .i64 t2)), (4, (.int .i64 i4))] m) = s108_1x0 C a0 t2 i4 K m := by kernel_rfl
def F108_1 (a0 : Nat) (t2 : Int) (i4 : Int) : Fr := [(0, (ptr a0 0)), (2, (.int .i64 t2)), (4, (.int .i64 i4))]
theorem loop108_1 {C : CallT} {γ : Type} {a0 : Nat} {K : Value → Mem → Prop} {m : Mem} (J : γ → Int → Int → Mem → Prop) (μ : γ → Int → Int → Nat) (g : γ) {t2 : Int} {i4 : Int} (hJ : J g t2 i4 m)
    (hs : ∀ g t2 i4 m, J g t2 i4 m → s108_1 C a0 t2 i4 (andThenE (fun fr m' => ∃ g' t2' i4', fr = F108_1 a0 t2' i4' ∧ J g' t2' i4' m' ∧ μ g' t2' i4' < μ g t2 i4) (kAt (cfgOf Tryz.prog pureF pureT C [(3, [0, 2, 4])] 108) (bodyOf Tryz.prog 108) [1, 1, 0, 1, 0] (endK Tryz.prog 108 K))) m) :
    loopE [0, 2, 4] (evCode (cfgOf Tryz.prog pureF pureT C [(3, [0, 2, 4])] 108) (codeAt (bodyOf Tryz.prog 108) [1, 1, 0, 1, 0, 0])) (kAt (cfgOf Tryz.prog pureF pureT C [(3, [0, 2, 4])] 108) (bodyOf Tryz.prog 108) [1, 1, 0, 1, 0] (endK Tryz.prog 108 K)) [(0, (ptr a0 0)), (2, (.int .i64 t2)), (4, (.int .i64 i4))] m := by
  refine loop_rule (σ := γ × Int × Int) (fun s => F108_1 a0 s.2.1 s.2.2) (fun s m => J s.1 s.2.1 s.2.2 m) (fun s => μ s.1 s.2.1 s.2.2) (g, t2, i4) rfl hJ ?_
  intro s m hJ
  have h := hs s.1 s.2.1 s.2.2 m hJ
  refine e108_1 ?_
  refine Eq.mp (congrArg (fun B => s108_1 C a0 s.2.1 s.2.2 (andThenE B (kAt (cfgOf Tryz.prog pureF pureT C [(3, [0, 2, 4])] 108) (bodyOf Tryz.prog 108) [1, 1, 0, 1, 0] (endK Tryz.prog 108 K))) m) ?_) h
  funext fr m'
  apply propext
  constructor
  · rintro ⟨g', t2', i4', h1, h2, h3⟩
    exact ⟨(g', t2', i4'), h1, h2, h3⟩
  · rintro ⟨⟨g', t2', i4'⟩, h1, h2, h3⟩
    exact ⟨g', t2', i4', h1, h2, h3⟩

def s109 (C : CallT) (a0 : Nat) (l1 : Int) (K : Value → Mem → Prop) (m : Mem) : Prop :=
  ifB (decide (l1 > 0))
  (ldInt .u16 m a0 3 fun x_1 =>
  st m a0 3 (.int .u16 (bOr .u16 x_1 (goBit16 (goVar l1)))) fun m_2 =>
  K (.tuple #[]) m_2)
  (ldInt .u16 m a0 4 fun x_3 =>
  st m a0 4 (.int .u16 (bOr .u16 x_3 (goBit16 (goVar l1)))) fun m_4 =>
  K (.tuple #[]) m_4)
theorem e109 (C : CallT) (a0 : Nat) (l1 : Int) (K : Value → Mem → Prop) (m : Mem) : evFn Tryz.prog pureF pureT C [] 109 [(ptr a0 0), (.int .i64 l1)] K m = s109 C a0 l1 K m := by kernel_rfl
theorem call109 {W0 : World} {a0 : Nat} {l1 : Int} {K : Value → Mem → Prop} {m : Mem} (h : s109 (callOK Tryz.prog W0) a0 l1 K m) : callOK Tryz.prog W0 109 [(ptr a0 0), (.int .i64 l1)] K m :=
  evFn_sound pureOk mixedP (fun w => Tryz.call109 _ w) ((e109 (callOK Tryz.prog W0) a0 l1 K m).symm ▸ h)

def s110 (C : CallT) (a0 : Nat) (assert1 : Int) (K : Value → Mem → Prop) (m : Mem) : Prop :=
  allocB m (zeroBlk Tryz.prog 123) fun b_1 m_2 =>
  mkSlice m_2 [(.int .i64 0)] 8 0 12 fun b_3 m_4 =>
  loopE [0, 1, 4, 5, 6, 7] (evCode (cfgOf Tryz.prog pureF pureT C [(4, [0, 1, 4, 5, 6, 7])] 110) (codeAt (bodyOf Tryz.prog 110) [1, 1, 1, 0, 1, 0, 0])) (kAt (cfgOf Tryz.prog pureF pureT C [(4, [0, 1, 4, 5, 6, 7])] 110) (bodyOf Tryz.prog 110) [1, 1, 1, 0, 1, 0] (endK Tryz.prog 110 K)) [(0, (ptr a0 0)), (1, (.int .i64 assert1)), (4, (ptr b_1 0)), (5, (.slice (some ⟨b_3, 0, none⟩) (Int.toNat 0) (Int.toNat 12))), (6, (.int .i64 0)), (7, (.int .i64 1))] m_4
theorem e110 (C : CallT) (a0 : Nat) (assert1 : Int) (K : Value → Mem → Prop) (m : Mem) : evFn Tryz.prog pureF pureT C [(4, [0, 1, 4, 5, 6, 7])] 110 [(ptr a0 0), (.int .i64 assert1)] K m = s110 C a0 assert1 K m := by kernel_rfl
theorem call110 {W0 : World} {a0 : Nat} {assert1 : Int} {K : Value → Mem → Prop} {m : Mem} (h : s110 (callOK Tryz.prog W0) a0 assert1 K m) : callOK Tryz.prog W0 110 [(ptr a0 0), (.int .i64 assert1)] K m :=
  evFn_sound pureOk mixedP (fun w => Tryz.call110 _ w) ((e110 (callOK Tryz.prog W0) a0 assert1 K m).symm ▸ h)
def s110_1 (C : CallT) (a0 : Nat) (assert1 : Int) (t4 : Nat) (lits5a : Option Addr) (lits5l lits5c : Nat) (back6 : Int) (v7 : Int) (Kt : Exit → Fr → Mem → Prop) (m : Mem) : Prop :=
  ifB (decide (v7 ≤ 12))
  (C 142 [(ptr a0 0), (.int .i64 v7)] (fun rm_6 m_6 =>
  ∃ x_5, rm_6 = (.int .i64 x_5) ∧
  ifB (x_5 == assert1)
  (allocB m_6 (Blk.ofList [(.int .i64 x_5)]) fun b_7 m_8 =>
  rdRow m_8 (some ⟨b_7, 0, none⟩) (1 * 1) fun r_11 =>
  appendC m_8 1 8 [(.int .i64 0)] lits5a lits5l lits5c 1 r_11 fun a_9 c_9 m_10 =>
  Kt .normal [(0, (ptr a0 0)), (1, (.int .i64 assert1)), (4, (ptr t4 0)), (5, (.slice a_9 (lits5l + 1) c_9)), (6, (.int .i64 back6)), (7, (.int .i64 (IntKind.wrap .i64 (v7 + 1))))] m_10)
  (ifB (x_5 != 0)
  (C 143 [(ptr a0 0), (.int .i64 x_5)] (fun rm_13 m_13 =>
  ∃ x_12, rm_13 = (.bool x_12) ∧
  ifB (!x_12)
  (allocB m_13 (Blk.ofList [(.int .i64 x_5)]) fun b_14 m_15 =>
  rdRow m_15 (some ⟨b_14, 0, none⟩) (1 * 1) fun r_18 =>
  appendC m_15 1 8 [(.int .i64 0)] lits5a lits5l lits5c 1 r_18 fun a_16 c_16 m_17 =>
  ldPtr m_17 a0 0 fun p_19 =>
  C 112 [(.pointer p_19), (.int .i64 v7)] (fun rm_21 m_21 =>
  ∃ x_20, rm_21 = (.int .i64 x_20) ∧
  ifB (decide (x_20 > back6))
  (Kt .normal [(0, (ptr a0 0)), (1, (.int .i64 assert1)), (4, (ptr t4 0)), (5, (.slice a_16 (lits5l + 1) c_16)), (6, (.int .i64 x_20)), (7, (.int .i64 (IntKind.wrap .i64 (v7 + 1))))] m_21)
  (Kt .normal [(0, (ptr a0 0)), (1, (.int .i64 assert1)), (4, (ptr t4 0)), (5, (.slice a_16 (lits5l + 1) c_16)), (6, (.int .i64 back6)), (7, (.int .i64 (IntKind.wrap .i64 (v7 + 1))))] m_21)) m_17)
  (Kt .normal [(0, (ptr a0 0)), (1, (.int .i64 assert1)), (4, (ptr t4 0)), (5, (.slice lits5a lits5l lits5c)), (6, (.int .i64 back6)), (7, (.int .i64 (IntKind.wrap .i64 (v7 + 1))))] m_13)) m_6)
  (Kt .normal [(0, (ptr a0 0)), (1, (.int .i64 assert1)), (4, (ptr t4 0)), (5, (.slice lits5a lits5l lits5c)), (6, (.int .i64 back6)), (7, (.int .i64 (IntKind.wrap .i64 (v7 + 1))))] m_6))) m)
  (Kt (.exit 0) [(0, (ptr a0 0)), (1, (.int .i64 assert1)), (4, (ptr t4 0)), (5, (.slice lits5a lits5l lits5c)), (6, (.int .i64 back6)), (7, (.int .i64 v7))] m)
theorem e110_1 {C : CallT} {a0 : Nat} {assert1 : Int} {t4 : Nat} {lits5a : Option Addr} {lits5l lits5c : Nat} {back6 : Int} {v7 : Int} {Kt : Exit → Fr → Mem → Prop} {m : Mem} (h : s110_1 C a0 assert1 t4 lits5a lits5l lits5c back6 v7 Kt m) : evCode (cfgOf Tryz.prog pureF pureT C [(4, [0, 1, 4, 5, 6, 7])] 110) (codeAt (bodyOf Tryz.prog 110) [1, 1, 1, 0, 1, 0, 0]) (trimK [0, 1, 4, 5, 6, 7] Kt) [(0, (ptr a0 0)), (1, (.int .i64 assert1)), (4, (ptr t4 0)), (5, (.slice lits5a lits5l lits5c)), (6, (.int .i64 back6)), (7, (.int .i64 v7))] m :=
  (show _ = _ by kernel_rfl : evCode (cfgOf Tryz.prog pureF pureT C [(4, [0, 1, 4, 5, 6, 7])] 110) (codeAt (bodyOf Tryz.prog 110) [1, 1, 1, 0, 1, 0, 0]) (trimK [0, 1, 4, 5, 6, 7] Kt) [(0, (ptr a0 0)), (1, (.int .i64 assert1)), (4, (ptr t4 0)), (5, (.slice lits5a lits5l lits5c)), (6, (.int .i64 back6)), (7, (.int .i64 v7))] m = s110_1 C a0 assert1 t4 lits5a lits5l lits5c back6 v7 Kt m).symm ▸ h
def s110_1x0 (C : CallT) (a0 : Nat) (assert1 : Int) (t4 : Nat) (lits5a : Option Addr) (lits5l lits5c : Nat) (back6 : Int) (v7 : Int) (K : Value → Mem → Prop) (m : Mem) : Prop :=
  C 52 [(.slice lits5a lits5l lits5c)] (fun rm_23 m_23 =>
  ∃ x_22a x_22l x_22c, rm_23 = (.slice x_22a x_22l x_22c) ∧
  stL m_23 t4 0 [(.int .i64 0), (.slice x_22a x_22l x_22c), (.int .i64 assert1), (.int .i64 back6)] fun m_24 =>
  ldInt .i64 m_24 t4 0 fun x_25 =>
  ldSl m_24 t4 1 fun l_26a l_26l l_26c =>
  ldInt .i64 m_24 t4 2 fun x_27 =>
  ldInt .i64 m_24 t4 3 fun x_28 =>
  K (.agg #[(.int .i64 x_25), (.slice l_26a l_26l l_26c), (.int .i64 x_27), (.int .i64 x_28)]) m_24) m
theorem e110_1x0 {C : CallT} {kn : Fr → Mem → Prop} {a0 : Nat} {assert1 : Int} {t4 : Nat} {lits5a : Option Addr} {lits5l lits5c : Nat} {back6 : Int} {v7 : Int} {K : Value → Mem → Prop} {m : Mem} : (andThenE kn (kAt (cfgOf Tryz.prog pureF pureT C [(4, [0, 1, 4, 5, 6, 7])] 110) (bodyOf Tryz.prog 110) [1, 1, 1, 0, 1, 0] (endK Tryz.prog 110 K)) (.exit 0) [(0, (ptr a0 0)), (1, (.int .i64 assert1)), (4, (ptr t4 0)), (5, (.slice lits5a lits5l lits5c)), (6, (.int .i64 back6)), (7, (.int .i64 v7))] m) = s110_1x0 C a0 assert1 t4 lits5a lits5l lits5c back6 v7 K m := by kernel_rfl
def F110_1 (a0 : Nat) (assert1 : Int) (t4 : Nat) (lits5a : Option Addr) (lits5l lits5c : Nat) (back6 : Int) (v7 : Int) : Fr := [(0, (ptr a0 0)), (1, (.int .i64 assert1)), (4, (ptr t4 0)), (5, (.slice lits5a lits5l lits5c)), (6, (.int .i64 back6)), (7, (.int .i64 v7))]
theorem loop110_1 {C : CallT} {γ : Type} {a0 : Nat} {assert1 : Int} {t4 : Nat} {K : Value → Mem → Prop} {m : Mem} (J : γ → Option Addr → Nat → Nat → Int → Int → Mem → Prop) (μ : γ → Option Addr → Nat → Nat → Int → Int → Nat) (g : γ) {lits5a : Option Addr} {lits5l lits5c : Nat} {back6 : Int} {v7 : Int} (hJ : J g lits5a lits5l lits5c back6 v7 m)
    (hs : ∀ g lits5a lits5l lits5c back6 v7 m, J g lits5a lits5l lits5c back6 v7 m → s110_1 C a0 assert1 t4 lits5a lits5l lits5c back6 v7 (andThenE (fun fr m' => ∃ g' lits5a' lits5l' lits5c' back6' v7', fr = F110_1 a0 assert1 t4 lits5a' lits5l' lits5c' back6' v7' ∧ J g' lits5a' lits5l' lits5c' back6' v7' m' ∧ μ g' lits5a' lits5l' lits5c' back6' v7' < μ g lits5a lits5l lits5c back6 v7) (kAt (cfgOf Tryz.prog pureF pureT C [(4, [0, 1, 4, 5, 6, 7])] 110) (bodyOf Tryz.prog 110) [1, 1, 1, 0, 1, 0] (endK Tryz.prog 110 K))) m) :
    loopE [0, 1, 4, 5, 6, 7] (evCode (cfgOf Tryz.prog pureF pureT C [(4, [0, 1, 4, 5, 6, 7])] 110) (codeAt (bodyOf Tryz.prog 110) [1, 1, 1, 0, 1, 0, 0])) (kAt (cfgOf Tryz.prog pureF pureT C [(4, [0, 1, 4, 5, 6, 7])] 110) (bodyOf Tryz.prog 110) [1, 1, 1, 0, 1, 0] (endK Tryz.prog 110 K)) [(0, (ptr a0 0)), (1, (.int .i64 assert1)), (4, (ptr t4 0)), (5, (.slice lits5a lits5l lits5c)), (6, (.int .i64 back6)), (7, (.int .i64 v7))] m := by
  refine loop_rule (σ := γ × Option Addr × Nat × Nat × Int × Int) (fun s => F110_1 a0 assert1 t4 s.2.1 s.2.2.1 s.2.2.2.1 s.2.2.2.2.1 s.2.2.2.2.2) (fun s m => J s.1 s.2.1 s.2.2.1 s.2.2.2.1 s.2.2.2.2.1 s.2.2.2.2.2 m) (fun s => μ s.1 s.2.1 s.2.2.1 s.2.2.2.1 s.2.2.2.2.1 s.2.2.2.2.2) (g, lits5a, lits5l, lits5c, back6, v7) rfl hJ ?_
  intro s m hJ
  have h := hs s.1 s.2.1 s.2.2.1 s.2.2.2.1 s.2.2.2.2.1 s.2.2.2.2.2 m hJ
  refine e110_1 ?_
  refine Eq.mp (congrArg (fun B => s110_1 C a0 assert1 t4 s.2.1 s.2.2.1 s.2.2.2.1 s.2.2.2.2.1 s.2.2.2.2.2 (andThenE B (kAt (cfgOf Tryz.prog pureF pureT C [(4, [0, 1, 4, 5, 6, 7])] 110) (bodyOf Tryz.prog 110) [1, 1, 1, 0, 1, 0] (endK Tryz.prog 110 K))) m) ?_) h
  funext fr m'
  apply propext
  constructor
  · rintro ⟨g', lits5a', lits5l', lits5c', back6', v7', h1, h2, h3⟩
    exact ⟨(g', lits5a', lits5l', lits5c', back6', v7'), h1, h2, h3⟩
  · rintro ⟨⟨g', lits5a', lits5l', lits5c', back6', v7'⟩, h1, h2, h3⟩
    exact ⟨g', lits5a', lits5l', lits5c', back6', v7', h1, h2, h3⟩

def s111 (C : CallT) (a0 : Nat) (K : Value → Mem → Prop) (m : Mem) : Prop :=
  st m a0 2 (.int .u16 0) fun m_1 =>
  st m_1 a0 3 (.int .u16 0) fun m_2 =>
  st m_2 a0 4 (.int .u16 0) fun m_3 =>
  st m_3 a0 5 (.int .i64 0) fun m_4 =>
  st m_4 a0 6 (.int .i64 0) fun m_5 =>
  K (.tuple #[]) m_5
theorem e111 (C : CallT) (a0 : Nat) (K : Value → Mem → Prop) (m : Mem) : evFn Tryz.prog pureF pureT C [] 111 [(ptr a0 0)] K m = s111 C a0 K m := by kernel_rfl
theorem call111 {W0 : World} {a0 : Nat} {K : Value → Mem → Prop} {m : Mem} (h : s111 (callOK Tryz.prog W0) a0 K m) : callOK Tryz.prog W0 111 [(ptr a0 0)] K m :=
  evFn_sound pureOk mixedP (fun w => Tryz.call111 _ w) ((e111 (callOK Tryz.prog W0) a0 K m).symm ▸ h)

def s112 (C : CallT) (t0 : Nat) (v1 : Int) (K : Value → Mem → Prop) (m : Mem) : Prop :=
  ifB (!(goIsVar v1))
  (K (.int .i64 (-1)) m)
  (ckI v1 13 fun j_1 =>
  ldInt .i64 m t0 (28 + j_1) fun x_2 =>
  K (.int .i64 x_2) m)
theorem e112 (C : CallT) (t0 : Nat) (v1 : Int) (K : Value → Mem → Prop) (m : Mem) : evFn Tryz.prog pureF pureT C [] 112 [(ptr t0 0), (.int .i64 v1)] K m = s112 C t0 v1 K m := by kernel_rfl
theorem call112 {W0 : World} {t0 : Nat} {v1 : Int} {K : Value → Mem → Prop} {m : Mem} (h : s112 (callOK Tryz.prog W0) t0 v1 K m) : callOK Tryz.prog W0 112 [(ptr t0 0), (.int .i64 v1)] K m :=
  evFn_sound pureOk mixedP (fun w => Tryz.call112 _ w) ((e112 (callOK Tryz.prog W0) t0 v1 K m).symm ▸ h)

def s113 (C : CallT) (t0 : Nat) (level1 : Int) (K : Value → Mem → Prop) (m : Mem) : Prop :=
  ifB (decide (level1 < 0))
  (K (.int .i64 10) m)
  (ldInt .i64 m t0 14 fun x_1 =>
  ifB (decide (level1 > x_1))
  (K (.int .i64 10) m)
  (ldInt .i64 m t0 14 fun x_2 =>
  ifB (decide (level1 < x_2))
  (ckI (IntKind.wrap .i64 (level1 + 1)) 13 fun j_3 =>
  ldInt .i64 m t0 (67 + j_3) fun x_4 =>
  C 94 [(ptr t0 0), (.int .i64 x_4)] (fun rm_5 m_5 =>
  rm_5 = (.tuple #[]) ∧
  st m_5 t0 14 (.int .i64 level1) fun m_6 =>
  K (.int .i64 0) m_6) m)
  (K (.int .i64 0) m)))
theorem e113 (C : CallT) (t0 : Nat) (level1 : Int) (K : Value → Mem → Prop) (m : Mem) : evFn Tryz.prog pureF pureT C [] 113 [(ptr t0 0), (.int .i64 level1)] K m = s113 C t0 level1 K m := by kernel_rfl
theorem call113 {W0 : World} {t0 : Nat} {level1 : Int} {K : Value → Mem → Prop} {m : Mem} (h : s113 (callOK Tryz.prog W0) t0 level1 K m) : callOK Tryz.prog W0 113 [(ptr t0 0), (.int .i64 level1)] K m :=
  evFn_sound pureOk mixedP (fun w => Tryz.call113 _ w) ((e113 (callOK Tryz.prog W0) t0 level1 K m).symm ▸ h)

def s114 (C : CallT) (w0 : Nat) (id1 : Int) (K : Value → Mem → Prop) (m : Mem) : Prop :=
  C 90 [(ptr w0 0), (.int .i64 id1)] (fun rm_2 m_2 =>
  ∃ x_1, rm_2 = (.bool x_1) ∧
  ifB (!x_1)
  (K (.int .i64 13) m_2)
  (loopE [0, 1, 4, 5, 6] (evCode (cfgOf Tryz.prog pureF pureT C [(5, [0, 1, 4, 5, 6])] 114) (codeAt (bodyOf Tryz.prog 114) [1, 1, 1, 0, 1, 0, 0])) (kAt (cfgOf Tryz.prog pureF pureT C [(5, [0, 1, 4, 5, 6])] 114) (bodyOf Tryz.prog 114) [1, 1, 1, 0, 1, 0] (endK Tryz.prog 114 K)) [(0, (ptr w0 0)), (1, (.int .i64 id1)), (4, (.int .i64 0)), (5, (.int .i64 (IntKind.wrap .i64 (id1 * 12)))), (6, (.int .i64 0))] m_2)) m
theorem e114 (C : CallT) (w0 : Nat) (id1 : Int) (K : Value → Mem → Prop) (m : Mem) : evFn Tryz.prog pureF pureT C [(5, [0, 1, 4, 5, 6])] 114 [(ptr w0 0), (.int .i64 id1)] K m = s114 C w0 id1 K m := by kernel_rfl
theorem call114 {W0 : World} {w0 : Nat} {id1 : Int} {K : Value → Mem → Prop} {m : Mem} (h : s114 (callOK Tryz.prog W0) w0 id1 K m) : callOK Tryz.prog W0 114 [(ptr w0 0), (.int .i64 id1)] K m :=
  evFn_sound pureOk mixedP (fun w => Tryz.call114 _ w) ((e114 (callOK Tryz.prog W0) w0 id1 K m).symm ▸ h)
def s114_1 (C : CallT) (w0 : Nat) (id1 : Int) (t4 : Int) (base5 : Int) (i6 : Int) (Kt : Exit → Fr → Mem → Prop) (m : Mem) : Prop :=
  ckI id1 52 fun j_3 =>
  ldInt .i64 m w0 (625 + j_3) fun x_4 =>
  ifB (decide (i6 < x_4))
  (ckI (IntKind.wrap .i64 (base5 + i6)) 624 fun j_5 =>
  ldInt .i64 m w0 (1 + j_5) fun x_6 =>
  ldPtr m w0 0 fun p_7 =>
  C 65 [(.pointer p_7), (.int .i64 x_6)] (fun rm_9 m_9 =>
  ∃ x_8, rm_9 = (.int .i64 x_8) ∧
  ifB (x_8 == 1)
  (ldPtr m_9 w0 0 fun p_10 =>
  C 141 [(.pointer p_10), (.int .i64 (goVar x_6))] (fun rm_12 m_12 =>
  ∃ x_11, rm_12 = (.int .i64 x_11) ∧
  ifB (x_11 == id1)
  (Kt .ret [(0, (ptr w0 0)), (1, (.int .i64 id1)), (4, (.int .i64 14)), (5, (.int .i64 base5)), (6, (.int .i64 i6))] m_12)
  (Kt .normal [(0, (ptr w0 0)), (1, (.int .i64 id1)), (4, (.int .i64 t4)), (5, (.int .i64 base5)), (6, (.int .i64 (IntKind.wrap .i64 (i6 + 1))))] m_12)) m_9)
  (Kt .normal [(0, (ptr w0 0)), (1, (.int .i64 id1)), (4, (.int .i64 t4)), (5, (.int .i64 base5)), (6, (.int .i64 (IntKind.wrap .i64 (i6 + 1))))] m_9)) m)
  (Kt (.exit 0) [(0, (ptr w0 0)), (1, (.int .i64 id1)), (4, (.int .i64 t4)), (5, (.int .i64 base5)), (6, (.int .i64 i6))] m)
theorem e114_1 {C : CallT} {w0 : Nat} {id1 : Int} {t4 : Int} {base5 : Int} {i6 : Int} {Kt : Exit → Fr → Mem → Prop} {m : Mem} (h : s114_1 C w0 id1 t4 base5 i6 Kt m) : evCode (cfgOf Tryz.prog pureF pureT C [(5, [0, 1, 4, 5, 6])] 114) (codeAt (bodyOf Tryz.prog 114) [1, 1, 1, 0, 1, 0, 0]) (trimK [0, 1, 4, 5, 6] Kt) [(0, (ptr w0 0)), (1, (.int .i64 id1)), (4, (.int .i64 t4)), (5, (.int .i64 base5)), (6, (.int .i64 i6))] m :=
  (show _ = _ by kernel_rfl : evCode (cfgOf Tryz.prog pureF pureT C [(5, [0, 1, 4, 5, 6])] 114) (codeAt (bodyOf Tryz.prog 114) [1, 1, 1, 0, 1, 0, 0]) (trimK [0, 1, 4, 5, 6] Kt) [(0, (ptr w0 0)), (1, (.int .i64 id1)), (4, (.int .i64 t4)), (5, (.int .i64 base5)), (6, (.int .i64 i6))] m = s114_1 C w0 id1 t4 base5 i6 Kt m).symm ▸ h
def s114_1r (C : CallT) (w0 : Nat) (id1 : Int) (t4 : Int) (base5 : Int) (i6 : Int) (K : Value → Mem → Prop) (m : Mem) : Prop :=
  K (.int .i64 t4) m
theorem e114_1r {C : CallT} {kn : Fr → Mem → Prop} {w0 : Nat} {id1 : Int} {t4 : Int} {base5 : Int} {i6 : Int} {K : Value → Mem → Prop} {m : Mem} : (andThenE kn (kAt (cfgOf Tryz.prog pureF pureT C [(5, [0, 1, 4, 5, 6])] 114) (bodyOf Tryz.prog 114) [1, 1, 1, 0, 1, 0] (endK Tryz.prog 114 K)) .ret [(0, (ptr w0 0)), (1, (.int .i64 id1)), (4, (.int .i64 t4)), (5, (.int .i64 base5)), (6, (.int .i64 i6))] m) = s114_1r C w0 id1 t4 base5 i6 K m := by kernel_rfl
def s114_1x0 (C : CallT) (w0 : Nat) (id1 : Int) (t4 : Int) (base5 : Int) (i6 : Int) (K : Value → Mem → Prop) (m : Mem) : Prop :=
  ldInt .u64 m w0 678 fun x_13 =>
  ldInt .u64 m w0 679 fun x_14 =>
  ifB ((bAnd .u64 (bOr .u64 x_13 x_14) (goBit id1)) == 0)
  (C 145 [(ptr w0 0), (.int .i64 id1)] (fun rm_15 m_15 =>
  rm_15 = (.tuple #[]) ∧
  ldInt .u64 m_15 w0 677 fun x_16 =>
  st m_15 w0 677 (.int .u64 (bAndNot .u64 x_16 (goBit id1))) fun m_17 =>
  ldInt .u64 m_17 w0 678 fun x_18 =>
  st m_17 w0 678 (.int .u64 (bAndNot .u64 x_18 (goBit id1))) fun m_19 =>
  ldInt .u64 m_19 w0 679 fun x_20 =>
  st m_19 w0 679 (.int .u64 (bAndNot .u64 x_20 (goBit id1))) fun m_21 =>
  ckI id1 52 fun j_22 =>
  st m_21 w0 (625 + j_22) (.int .i64 0) fun m_23 =>
  K (.int .i64 0) m_23) m)
  (ldInt .u64 m w0 677 fun x_24 =>
  st m w0 677 (.int .u64 (bAndNot .u64 x_24 (goBit id1))) fun m_25 =>
  ldInt .u64 m_25 w0 678 fun x_26 =>
  st m_25 w0 678 (.int .u64 (bAndNot .u64 x_26 (goBit id1))) fun m_27 =>
  ldInt .u64 m_27 w0 679 fun x_28 =>
  st m_27 w0 679 (.int .u64 (bAndNot .u64 x_28 (goBit id1))) fun m_29 =>
  ckI id1 52 fun j_30 =>
  st m_29 w0 (625 + j_30) (.int .i64 0) fun m_31 =>
  K (.int .i64 0) m_31)
theorem e114_1x0 {C : CallT} {kn : Fr → Mem → Prop} {w0 : Nat} {id1 : Int} {t4 : Int} {base5 : Int} {i6 : Int} {K : Value → Mem → Prop} {m : Mem} : (andThenE kn (kAt (cfgOf Tryz.prog pureF pureT C [(5, [0, 1, 4, 5, 6])] 114) (bodyOf Tryz.prog 114) [1, 1, 1, 0, 1, 0] (endK Tryz.prog 114 K)) (.exit 0) [(0, (ptr w0 0)), (1, (.int .i64 id1)), (4, (.int .i64 t4)), (5, (.int .i64 base5)), (6, (.int .i64 i6))] m) = s114_1x0 C w0 id1 t4 base5 i6 K m := by kernel_rfl
def F114_1 (w0 : Nat) (id1 : Int) (t4 : Int) (base5 : Int) (i6 : Int) : Fr := [(0, (ptr w0 0)), (1, (.int .i64 id1)), (4, (.int .i64 t4)), (5, (.int .i64 base5)), (6, (.int .i64 i6))]
theorem loop114_1 {C : CallT} {γ : Type} {w0 : Nat} {id1 : Int} {base5 : Int} {K : Value → Mem → Prop} {m : Mem} (J : γ → Int → Int → Mem → Prop) (μ : γ → Int → Int → Nat) (g : γ) {t4 : Int} {i6 : Int} (hJ : J g t4 i6 m)
    (hs : ∀ g t4 i6 m, J g t4 i6 m → s114_1 C w0 id1 t4 base5 i6 (andThenE (fun fr m' => ∃ g' t4' i6', fr = F114_1 w0 id1 t4' base5 i6' ∧ J g' t4' i6' m' ∧ μ g' t4' i6' < μ g t4 i6) (kAt (cfgOf Tryz.prog pureF pureT C [(5, [0, 1, 4, 5, 6])] 114) (bodyOf Tryz.prog 114) [1, 1, 1, 0, 1, 0] (endK Tryz.prog 114 K))) m) :
    loopE [0, 1, 4, 5, 6] (evCode (cfgOf Tryz.prog pureF pureT C [(5, [0, 1, 4, 5, 6])] 114) (codeAt (bodyOf Tryz.prog 114) [1, 1, 1, 0, 1, 0, 0])) (kAt (cfgOf Tryz.prog pureF pureT C [(5, [0, 1, 4, 5, 6])] 114) (bodyOf Tryz.prog 114) [1, 1, 1, 0, 1, 0] (endK Tryz.prog 114 K)) [(0, (ptr w0 0)), (1, (.int .i64 id1)), (4, (.int .i64 t4)), (5, (.int .i64 base5)), (6, (.int .i64 i6))] m := by
  refine loop_rule (σ := γ × Int × Int) (fun s => F114_1 w0 id1 s.2.1 base5 s.2.2) (fun s m => J s.1 s.2.1 s.2.2 m) (fun s => μ s.1 s.2.1 s.2.2) (g, t4, i6) rfl hJ ?_
  intro s m hJ
  have h := hs s.1 s.2.1 s.2.2 m hJ
  refine e114_1 ?_
  refine Eq.mp (congrArg (fun B => s114_1 C w0 id1 s.2.1 base5 s.2.2 (andThenE B (kAt (cfgOf Tryz.prog pureF pureT C [(5, [0, 1, 4, 5, 6])] 114) (bodyOf Tryz.prog 114) [1, 1, 1, 0, 1, 0] (endK Tryz.prog 114 K))) m) ?_) h
  funext fr m'
  apply propext
  constructor
  · rintro ⟨g', t4', i6', h1, h2, h3⟩
    exact ⟨(g', t4', i6'), h1, h2, h3⟩
  · rintro ⟨⟨g', t4', i6'⟩, h1, h2, h3⟩
    exact ⟨g', t4', i6', h1, h2, h3⟩

def s115 (C : CallT) (f0a : Option Addr) (f0l f0c : Nat) (K : Value → Mem → Prop) (m : Mem) : Prop :=
  loopE [0, 2, 3, 4, 5] (evCode (cfgOf Tryz.prog pureF pureT C [(4, [0, 2, 3, 4, 5])] 115) (codeAt (bodyOf Tryz.prog 115) [1, 1, 1, 0, 1, 0, 0])) (kAt (cfgOf Tryz.prog pureF pureT C [(4, [0, 2, 3, 4, 5])] 115) (bodyOf Tryz.prog 115) [1, 1, 1, 0, 1, 0] (endK Tryz.prog 115 K)) [(0, (.slice f0a f0l f0c)), (2, (.int .i64 0)), (3, (.bool true)), (4, (.int .i64 0)), (5, (.int .i64 0))] m
theorem e115 (C : CallT) (f0a : Option Addr) (f0l f0c : Nat) (K : Value → Mem → Prop) (m : Mem) : evFn Tryz.prog pureF pureT C [(4, [0, 2, 3, 4, 5])] 115 [(.slice f0a f0l f0c)] K m = s115 C f0a f0l f0c K m := by kernel_rfl
theorem call115 {W0 : World} {f0a : Option Addr} {f0l f0c : Nat} {K : Value → Mem → Prop} {m : Mem} (h : s115 (callOK Tryz.prog W0) f0a f0l f0c K m) : callOK Tryz.prog W0 115 [(.slice f0a f0l f0c)] K m :=
  evFn_sound pureOk mixedP (fun w => Tryz.call115 _ w) ((e115 (callOK Tryz.prog W0) f0a f0l f0c K m).symm ▸ h)
def s115_1 (C : CallT) (f0a : Option Addr) (f0l f0c : Nat) (t2 : Int) (start3 : Bool) (last4 : Int) (i5 : Int) (Kt : Exit → Fr → Mem → Prop) (m : Mem) : Prop :=
  ifB (decide (i5 < ((f0l : Nat) : Int)))
  (ckP f0a fun b_1 o_1 =>
  ckI i5 f0l fun j_2 =>
  ldInt .i64 m b_1 (o_1 + j_2) fun x_3 =>
  ifB (x_3 == 13)
  (ifB start3
  (ifB (decide ((IntKind.wrap .i64 (i5 + 1)) ≥ ((f0l : Nat) : Int)))
  (Kt .ret [(0, (.slice f0a f0l f0c)), (2, (.int .i64 6)), (3, (.bool false)), (4, (.int .i64 last4)), (5, (.int .i64 i5))] m)
  (Kt .normal [(0, (.slice f0a f0l f0c)), (2, (.int .i64 t2)), (3, (.bool false)), (4, (.int .i64 last4)), (5, (.int .i64 (IntKind.wrap .i64 (i5 + 1))))] m))
  (ifB (x_3 == 0)
  (Kt .normal [(0, (.slice f0a f0l f0c)), (2, (.int .i64 t2)), (3, (.bool true)), (4, (.int .i64 0)), (5, (.int .i64 (IntKind.wrap .i64 (i5 + 1))))] m)
  (ifB (!(goGoodLit x_3))
  (Kt .ret [(0, (.slice f0a f0l f0c)), (2, (.int .i64 6)), (3, (.bool start3)), (4, (.int .i64 last4)), (5, (.int .i64 i5))] m)
  (ifB (decide ((goVar x_3) ≤ last4))
  (Kt .ret [(0, (.slice f0a f0l f0c)), (2, (.int .i64 6)), (3, (.bool start3)), (4, (.int .i64 last4)), (5, (.int .i64 i5))] m)
  (Kt .normal [(0, (.slice f0a f0l f0c)), (2, (.int .i64 t2)), (3, (.bool false)), (4, (.int .i64 (goVar x_3))), (5, (.int .i64 (IntKind.wrap .i64 (i5 + 1))))] m)))))
  (ifB (x_3 == 0)
  (Kt .normal [(0, (.slice f0a f0l f0c)), (2, (.int .i64 t2)), (3, (.bool true)), (4, (.int .i64 0)), (5, (.int .i64 (IntKind.wrap .i64 (i5 + 1))))] m)
  (ifB (!(goGoodLit x_3))
  (Kt .ret [(0, (.slice f0a f0l f0c)), (2, (.int .i64 6)), (3, (.bool start3)), (4, (.int .i64 last4)), (5, (.int .i64 i5))] m)
  (ifB (decide ((goVar x_3) ≤ last4))
  (Kt .ret [(0, (.slice f0a f0l f0c)), (2, (.int .i64 6)), (3, (.bool start3)), (4, (.int .i64 last4)), (5, (.int .i64 i5))] m)
  (Kt .normal [(0, (.slice f0a f0l f0c)), (2, (.int .i64 t2)), (3, (.bool false)), (4, (.int .i64 (goVar x_3))), (5, (.int .i64 (IntKind.wrap .i64 (i5 + 1))))] m)))))
  (Kt (.exit 0) [(0, (.slice f0a f0l f0c)), (2, (.int .i64 t2)), (3, (.bool start3)), (4, (.int .i64 last4)), (5, (.int .i64 i5))] m)
theorem e115_1 {C : CallT} {f0a : Option Addr} {f0l f0c : Nat} {t2 : Int} {start3 : Bool} {last4 : Int} {i5 : Int} {Kt : Exit → Fr → Mem → Prop} {m : Mem} (h : s115_1 C f0a f0l f0c t2 start3 last4 i5 Kt m) : evCode (cfgOf Tryz.prog pureF pureT C [(4, [0, 2, 3, 4, 5])] 115) (codeAt (bodyOf Tryz.prog 115) [1, 1, 1, 0, 1, 0, 0]) (trimK [0, 2, 3, 4, 5] Kt) [(0, (.slice f0a f0l f0c)), (2, (.int .i64 t2)), (3, (.bool start3)), (4, (.int .i64 last4)), (5, (.int .i64 i5))] m :=
  (show _ = _ by kernel_rfl : evCode (cfgOf Tryz.prog pureF pureT C [(4, [0, 2, 3, 4, 5])] 115) (codeAt (bodyOf Tryz.prog 115) [1, 1, 1, 0, 1, 0, 0]) (trimK [0, 2, 3, 4, 5] Kt) [(0, (.slice f0a f0l f0c)), (2, (.int .i64 t2)), (3, (.bool start3)), (4, (.int .i64 last4)), (5, (.int .i64 i5))] m = s115_1 C f0a f0l f0c t2 start3 last4 i5 Kt m).symm ▸ h
def s115_1r (C : CallT) (f0a : Option Addr) (f0l f0c : Nat) (t2 : Int) (start3 : Bool) (last4 : Int) (i5 : Int) (K : Value → Mem → Prop) (m : Mem) : Prop :=
  K (.int .i64 t2) m
theorem e115_1r {C : CallT} {kn : Fr → Mem → Prop} {f0a : Option Addr} {f0l f0c : Nat} {t2 : Int} {start3 : Bool} {last4 : Int} {i5 : Int} {K : Value → Mem → Prop} {m : Mem} : (andThenE kn (kAt (cfgOf Tryz.prog pureF pureT C [(4, [0, 2, 3, 4, 5])] 115) (bodyOf Tryz.prog 115) [1, 1, 1, 0, 1, 0] (endK Tryz.prog 115 K)) .ret [(0, (.slice f0a f0l f0c)), (2, (.int .i64 t2)), (3, (.bool start3)), (4, (.int .i64 last4)), (5, (.int .i64 i5))] m) = s115_1r C f0a f0l f0c t2 start3 last4 i5 K m := by kernel_rfl
def s115_1x0 (C : CallT) (f0a : Option Addr) (f0l f0c : Nat) (t2 : Int) (start3 : Bool) (last4 : Int) (i5 : Int) (K : Value → Mem → Prop) (m : Mem) : Prop :=
  ifB (decide (((f0l : Nat) : Int) > 0))
  (ckP f0a fun b_4 o_4 =>
  ckI (IntKind.wrap .i64 (((f0l : Nat) : Int) - 1)) f0l fun j_5 =>
  ldInt .i64 m b_4 (o_4 + j_5) fun x_6 =>
  ifB (x_6 != 0)
  (K (.int .i64 6) m)
  (K (.int .i64 0) m))
  (K (.int .i64 0) m)
theorem e115_1x0 {C : CallT} {kn : Fr → Mem → Prop} {f0a : Option Addr} {f0l f0c : Nat} {t2 : Int} {start3 : Bool} {last4 : Int} {i5 : Int} {K : Value → Mem → Prop} {m : Mem} : (andThenE kn (kAt (cfgOf Tryz.prog pureF pureT C [(4, [0, 2, 3, 4, 5])] 115) (bodyOf Tryz.prog 115) [1, 1, 1, 0, 1, 0] (endK Tryz.prog 115 K)) (.exit 0) [(0, (.slice f0a f0l f0c)), (2, (.int .i64 t2)), (3, (.bool start3)), (4, (.int .i64 last4)), (5, (.int .i64 i5))] m) = s115_1x0 C f0a f0l f0c t2 start3 last4 i5 K m := by kernel_rfl
def F115_1 (f0a : Option Addr) (f0l f0c : Nat) (t2 : Int) (start3 : Bool) (last4 : Int) (i5 : Int) : Fr := [(0, (.slice f0a f0l f0c)), (2, (.int .i64 t2)), (3, (.bool start3)), (4, (.int .i64 last4)), (5, (.int .i64 i5))]
theorem loop115_1 {C : CallT} {γ : Type} {f0a : Option Addr} {f0l f0c : Nat} {K : Value → Mem → Prop} {m : Mem} (J : γ → Int → Bool → Int → Int → Mem → Prop) (μ : γ → Int → Bool → Int → Int → Nat) (g : γ) {t2 : Int} {start3 : Bool} {last4 : Int} {i5 : Int} (hJ : J g t2 start3 last4 i5 m)
    (hs : ∀ g t2 start3 last4 i5 m, J g t2 start3 last4 i5 m → s115_1 C f0a f0l f0c t2 start3 last4 i5 (andThenE (fun fr m' => ∃ g' t2' start3' last4' i5', fr = F115_1 f0a f0l f0c t2' start3' last4' i5' ∧ J g' t2' start3' last4' i5' m' ∧ μ g' t2' start3' last4' i5' < μ g t2 start3 last4 i5) (kAt (cfgOf Tryz.prog pureF pureT C [(4, [0, 2, 3, 4, 5])] 115) (bodyOf Tryz.prog 115) [1, 1, 1, 0, 1, 0] (endK Tryz.prog 115 K))) m) :
    loopE [0, 2, 3, 4, 5] (evCode (cfgOf Tryz.prog pureF pureT C [(4, [0, 2, 3, 4, 5])] 115) (codeAt (bodyOf Tryz.prog 115) [1, 1, 1, 0, 1, 0, 0])) (kAt (cfgOf Tryz.prog pureF pureT C [(4, [0, 2, 3, 4, 5])] 115) (bodyOf Tryz.prog 115) [1, 1, 1, 0, 1, 0] (endK Tryz.prog 115 K)) [(0, (.slice f0a f0l f0c)), (2, (.int .i64 t2)), (3, (.bool start3)), (4, (.int .i64 last4)), (5, (.int .i64 i5))] m := by
  refine loop_rule (σ := γ × Int × Bool × Int × Int) (fun s => F115_1 f0a f0l f0c s.2.1 s.2.2.1 s.2.2.2.1 s.2.2.2.2) (fun s m => J s.1 s.2.1 s.2.2.1 s.2.2.2.1 s.2.2.2.2 m) (fun s => μ s.1 s.2.1 s.2.2.1 s.2.2.2.1 s.2.2.2.2) (g, t2, start3, last4, i5) rfl hJ ?_
  intro s m hJ
  have h := hs s.1 s.2.1 s.2.2.1 s.2.2.2.1 s.2.2.2.2 m hJ
  refine e115_1 ?_
  refine Eq.mp (congrArg (fun B => s115_1 C f0a f0l f0c s.2.1 s.2.2.1 s.2.2.2.1 s.2.2.2.2 (andThenE B (kAt (cfgOf Tryz.prog pureF pureT C [(4, [0, 2, 3, 4, 5])] 115) (bodyOf Tryz.prog 115) [1, 1, 1, 0, 1, 0] (endK Tryz.prog 115 K))) m) ?_) h
  funext fr m'
  apply propext
  constructor
  · rintro ⟨g', t2', start3', last4', i5', h1, h2, h3⟩
    exact ⟨(g', t2', start3', last4', i5'), h1, h2, h3⟩
  · rintro ⟨⟨g', t2', start3', last4', i5'⟩, h1, h2, h3⟩
    exact ⟨g', t2', start3', last4', i5', h1, h2, h3⟩

def s117 (C : CallT) (b0a : Option Addr) (b0l b0c : Nat) (at1 : Int) (x2 : Int) (K : Value → Mem → Prop) (m : Mem) : Prop :=
  ifB (x2 == 13)
  (ckP b0a fun b_1 o_1 =>
  ckI at1 b0l fun j_2 =>
  st m b_1 (o_1 + j_2) (.int .u8 100) fun m_3 =>
  ckP b0a fun b_4 o_4 =>
  ckI (IntKind.wrap .i64 (at1 + 1)) b0l fun j_5 =>
  st m_3 b_4 (o_4 + j_5) (.int .u8 32) fun m_6 =>
  K (.int .i64 (IntKind.wrap .i64 (at1 + 2))) m_6)
  (ifB (x2 == 0)
  (ckP b0a fun b_7 o_7 =>
  ckI at1 b0l fun j_8 =>
  st m b_7 (o_7 + j_8) (.int .u8 48) fun m_9 =>
  ckP b0a fun b_10 o_10 =>
  ckI (IntKind.wrap .i64 (at1 + 1)) b0l fun j_11 =>
  st m_9 b_10 (o_10 + j_11) (.int .u8 10) fun m_12 =>
  K (.int .i64 (IntKind.wrap .i64 (at1 + 2))) m_12)
  (ifB (decide (x2 < 0))
  (ckP b0a fun b_13 o_13 =>
  ckI at1 b0l fun j_14 =>
  st m b_13 (o_13 + j_14) (.int .u8 45) fun m_15 =>
  ifB (decide ((IntKind.wrap .i64 (0 - x2)) ≥ 10))
  ((10 : Int) ≠ 0 ∧
  ckP b0a fun b_16 o_16 =>
  ckI (IntKind.wrap .i64 (at1 + 1)) b0l fun j_17 =>
  st m_15 b_16 (o_16 + j_17) (.int .u8 (IntKind.wrap .u8 (IntKind.wrap .i64 (48 + (IntKind.wrap .i64 (Int.tdiv (IntKind.wrap .i64 (0 - x2)) 10)))))) fun m_18 =>
  (10 : Int) ≠ 0 ∧
  ckP b0a fun b_19 o_19 =>
  ckI (IntKind.wrap .i64 ((IntKind.wrap .i64 (at1 + 1)) + 1)) b0l fun j_20 =>
  st m_18 b_19 (o_19 + j_20) (.int .u8 (IntKind.wrap .u8 (IntKind.wrap .i64 (48 + (Int.tmod (IntKind.wrap .i64 (0 - x2)) 10))))) fun m_21 =>
  ckP b0a fun b_22 o_22 =>
  ckI (IntKind.wrap .i64 ((IntKind.wrap .i64 ((IntKind.wrap .i64 (at1 + 1)) + 1)) + 1)) b0l fun j_23 =>
  st m_21 b_22 (o_22 + j_23) (.int .u8 32) fun m_24 =>
  K (.int .i64 (IntKind.wrap .i64 ((IntKind.wrap .i64 ((IntKind.wrap .i64 (at1 + 1)) + 1)) + 2))) m_24)
  (ckP b0a fun b_25 o_25 =>
  ckI (IntKind.wrap .i64 (at1 + 1)) b0l fun j_26 =>
  st m_15 b_25 (o_25 + j_26) (.int .u8 (IntKind.wrap .u8 (IntKind.wrap .i64 (48 + (IntKind.wrap .i64 (0 - x2)))))) fun m_27 =>
  ckP b0a fun b_28 o_28 =>
  ckI (IntKind.wrap .i64 ((IntKind.wrap .i64 (at1 + 1)) + 1)) b0l fun j_29 =>
  st m_27 b_28 (o_28 + j_29) (.int .u8 32) fun m_30 =>
  K (.int .i64 (IntKind.wrap .i64 ((IntKind.wrap .i64 (at1 + 1)) + 2))) m_30))
  (ifB (decide (x2 ≥ 10))
  ((10 : Int) ≠ 0 ∧
  ckP b0a fun b_31 o_31 =>
  ckI at1 b0l fun j_32 =>
  st m b_31 (o_31 + j_32) (.int .u8 (IntKind.wrap .u8 (IntKind.wrap .i64 (48 + (IntKind.wrap .i64 (Int.tdiv x2 10)))))) fun m_33 =>
  (10 : Int) ≠ 0 ∧
  ckP b0a fun b_34 o_34 =>
  ckI (IntKind.wrap .i64 (at1 + 1)) b0l fun j_35 =>
  st m_33 b_34 (o_34 + j_35) (.int .u8 (IntKind.wrap .u8 (IntKind.wrap .i64 (48 + (Int.tmod x2 10))))) fun m_36 =>
  ckP b0a fun b_37 o_37 =>
  ckI (IntKind.wrap .i64 ((IntKind.wrap .i64 (at1 + 1)) + 1)) b0l fun j_38 =>
  st m_36 b_37 (o_37 + j_38) (.int .u8 32) fun m_39 =>
  K (.int .i64 (IntKind.wrap .i64 ((IntKind.wrap .i64 (at1 + 1)) + 2))) m_39)
  (ckP b0a fun b_40 o_40 =>
  ckI at1 b0l fun j_41 =>
  st m b_40 (o_40 + j_41) (.int .u8 (IntKind.wrap .u8 (IntKind.wrap .i64 (48 + x2)))) fun m_42 =>
  ckP b0a fun b_43 o_43 =>
  ckI (IntKind.wrap .i64 (at1 + 1)) b0l fun j_44 =>
  st m_42 b_43 (o_43 + j_44) (.int .u8 32) fun m_45 =>
  K (.int .i64 (IntKind.wrap .i64 (at1 + 2))) m_45))))
theorem e117 (C : CallT) (b0a : Option Addr) (b0l b0c : Nat) (at1 : Int) (x2 : Int) (K : Value → Mem → Prop) (m : Mem) : evFn Tryz.prog pureF pureT C [] 117 [(.slice b0a b0l b0c), (.int .i64 at1), (.int .i64 x2)] K m = s117 C b0a b0l b0c at1 x2 K m := by kernel_rfl
theorem call117 {W0 : World} {b0a : Option Addr} {b0l b0c : Nat} {at1 : Int} {x2 : Int} {K : Value → Mem → Prop} {m : Mem} (h : s117 (callOK Tryz.prog W0) b0a b0l b0c at1 x2 K m) : callOK Tryz.prog W0 117 [(.slice b0a b0l b0c), (.int .i64 at1), (.int .i64 x2)] K m :=
  evFn_sound pureOk mixedP (fun w => Tryz.call117 _ w) ((e117 (callOK Tryz.prog W0) b0a b0l b0c at1 x2 K m).symm ▸ h)

def s119 (C : CallT) (set0 : Int) (K : Value → Mem → Prop) (m : Mem) : Prop :=
  loopE [0, 2, 3] (evCode (cfgOf Tryz.prog pureF pureT C [(2, [0, 2, 3])] 119) (codeAt (bodyOf Tryz.prog 119) [1, 0, 1, 0, 0])) (kAt (cfgOf Tryz.prog pureF pureT C [(2, [0, 2, 3])] 119) (bodyOf Tryz.prog 119) [1, 0, 1, 0] (endK Tryz.prog 119 K)) [(0, (.int .u64 set0)), (2, (.int .i64 0)), (3, (.int .i64 0))] m
theorem e119 (C : CallT) (set0 : Int) (K : Value → Mem → Prop) (m : Mem) : evFn Tryz.prog pureF pureT C [(2, [0, 2, 3])] 119 [(.int .u64 set0)] K m = s119 C set0 K m := by kernel_rfl
theorem call119 {W0 : World} {set0 : Int} {K : Value → Mem → Prop} {m : Mem} (h : s119 (callOK Tryz.prog W0) set0 K m) : callOK Tryz.prog W0 119 [(.int .u64 set0)] K m :=
  evFn_sound pureOk mixedP (fun w => Tryz.call119 _ w) ((e119 (callOK Tryz.prog W0) set0 K m).symm ▸ h)
def s119_1 (C : CallT) (set0 : Int) (t2 : Int) (s3 : Int) (Kt : Exit → Fr → Mem → Prop) (m : Mem) : Prop :=
  ifB (decide (s3 < 64))
  (ifB ((bAnd .u64 set0 (goSlotBit s3)) != 0)
  (Kt .ret [(0, (.int .u64 set0)), (2, (.int .i64 s3)), (3, (.int .i64 s3))] m)
  (Kt .normal [(0, (.int .u64 set0)), (2, (.int .i64 t2)), (3, (.int .i64 (IntKind.wrap .i64 (s3 + 1))))] m))
  (Kt (.exit 0) [(0, (.int .u64 set0)), (2, (.int .i64 t2)), (3, (.int .i64 s3))] m)
theorem e119_1 {C : CallT} {set0 : Int} {t2 : Int} {s3 : Int} {Kt : Exit → Fr → Mem → Prop} {m : Mem} (h : s119_1 C set0 t2 s3 Kt m) : evCode (cfgOf Tryz.prog pureF pureT C [(2, [0, 2, 3])] 119) (codeAt (bodyOf Tryz.prog 119) [1, 0, 1, 0, 0]) (trimK [0, 2, 3] Kt) [(0, (.int .u64 set0)), (2, (.int .i64 t2)), (3, (.int .i64 s3))] m :=
  (show _ = _ by kernel_rfl : evCode (cfgOf Tryz.prog pureF pureT C [(2, [0, 2, 3])] 119) (codeAt (bodyOf Tryz.prog 119) [1, 0, 1, 0, 0]) (trimK [0, 2, 3] Kt) [(0, (.int .u64 set0)), (2, (.int .i64 t2)), (3, (.int .i64 s3))] m = s119_1 C set0 t2 s3 Kt m).symm ▸ h
def s119_1r (C : CallT) (set0 : Int) (t2 : Int) (s3 : Int) (K : Value → Mem → Prop) (m : Mem) : Prop :=
  K (.int .i64 t2) m
theorem e119_1r {C : CallT} {kn : Fr → Mem → Prop} {set0 : Int} {t2 : Int} {s3 : Int} {K : Value → Mem → Prop} {m : Mem} : (andThenE kn (kAt (cfgOf Tryz.prog pureF pureT C [(2, [0, 2, 3])] 119) (bodyOf Tryz.prog 119) [1, 0, 1, 0] (endK Tryz.prog 119 K)) .ret [(0, (.int .u64 set0)), (2, (.int .i64 t2)), (3, (.int .i64 s3))] m) = s119_1r C set0 t2 s3 K m := by kernel_rfl
def s119_1x0 (C : CallT) (set0 : Int) (t2 : Int) (s3 : Int) (K : Value → Mem → Prop) (m : Mem) : Prop :=
  K (.int .i64 (-1)) m
theorem e119_1x0 {C : CallT} {kn : Fr → Mem → Prop} {set0 : Int} {t2 : Int} {s3 : Int} {K : Value → Mem → Prop} {m : Mem} : (andThenE kn (kAt (cfgOf Tryz.prog pureF pureT C [(2, [0, 2, 3])] 119) (bodyOf Tryz.prog 119) [1, 0, 1, 0] (endK Tryz.prog 119 K)) (.exit 0) [(0, (.int .u64 set0)), (2, (.int .i64 t2)), (3, (.int .i64 s3))] m) = s119_1x0 C set0 t2 s3 K m := by kernel_rfl
def F119_1 (set0 : Int) (t2 : Int) (s3 : Int) : Fr := [(0, (.int .u64 set0)), (2, (.int .i64 t2)), (3, (.int .i64 s3))]
theorem loop119_1 {C : CallT} {γ : Type} {set0 : Int} {K : Value → Mem → Prop} {m : Mem} (J : γ → Int → Int → Mem → Prop) (μ : γ → Int → Int → Nat) (g : γ) {t2 : Int} {s3 : Int} (hJ : J g t2 s3 m)
    (hs : ∀ g t2 s3 m, J g t2 s3 m → s119_1 C set0 t2 s3 (andThenE (fun fr m' => ∃ g' t2' s3', fr = F119_1 set0 t2' s3' ∧ J g' t2' s3' m' ∧ μ g' t2' s3' < μ g t2 s3) (kAt (cfgOf Tryz.prog pureF pureT C [(2, [0, 2, 3])] 119) (bodyOf Tryz.prog 119) [1, 0, 1, 0] (endK Tryz.prog 119 K))) m) :
    loopE [0, 2, 3] (evCode (cfgOf Tryz.prog pureF pureT C [(2, [0, 2, 3])] 119) (codeAt (bodyOf Tryz.prog 119) [1, 0, 1, 0, 0])) (kAt (cfgOf Tryz.prog pureF pureT C [(2, [0, 2, 3])] 119) (bodyOf Tryz.prog 119) [1, 0, 1, 0] (endK Tryz.prog 119 K)) [(0, (.int .u64 set0)), (2, (.int .i64 t2)), (3, (.int .i64 s3))] m := by
  refine loop_rule (σ := γ × Int × Int) (fun s => F119_1 set0 s.2.1 s.2.2) (fun s m => J s.1 s.2.1 s.2.2 m) (fun s => μ s.1 s.2.1 s.2.2) (g, t2, s3) rfl hJ ?_
  intro s m hJ
  have h := hs s.1 s.2.1 s.2.2 m hJ
  refine e119_1 ?_
  refine Eq.mp (congrArg (fun B => s119_1 C set0 s.2.1 s.2.2 (andThenE B (kAt (cfgOf Tryz.prog pureF pureT C [(2, [0, 2, 3])] 119) (bodyOf Tryz.prog 119) [1, 0, 1, 0] (endK Tryz.prog 119 K))) m) ?_) h
  funext fr m'
  apply propext
  constructor
  · rintro ⟨g', t2', s3', h1, h2, h3⟩
    exact ⟨(g', t2', s3'), h1, h2, h3⟩
  · rintro ⟨⟨g', t2', s3'⟩, h1, h2, h3⟩
    exact ⟨g', t2', s3', h1, h2, h3⟩

def s120 (C : CallT) (k0 : Nat) (p1 : Int) (n2 : Int) (K : Value → Mem → Prop) (m : Mem) : Prop :=
  loopE [0, 1, 2, 6, 7] (evCode (cfgOf Tryz.prog pureF pureT C [(2, [0, 1, 2, 6, 7])] 120) (codeAt (bodyOf Tryz.prog 120) [1, 0, 1, 0, 0])) (kAt (cfgOf Tryz.prog pureF pureT C [(2, [0, 1, 2, 6, 7])] 120) (bodyOf Tryz.prog 120) [1, 0, 1, 0] (endK Tryz.prog 120 K)) [(0, (ptr k0 0)), (1, (.int .u16 p1)), (2, (.int .u16 n2)), (6, (.int .i64 0)), (7, (.int .i64 0))] m
theorem e120 (C : CallT) (k0 : Nat) (p1 : Int) (n2 : Int) (K : Value → Mem → Prop) (m : Mem) : evFn Tryz.prog pureF pureT C [(2, [0, 1, 2, 6, 7])] 120 [(ptr k0 0), (.int .u16 p1), (.int .u16 n2)] K m = s120 C k0 p1 n2 K m := by kernel_rfl
theorem call120 {W0 : World} {k0 : Nat} {p1 : Int} {n2 : Int} {K : Value → Mem → Prop} {m : Mem} (h : s120 (callOK Tryz.prog W0) k0 p1 n2 K m) : callOK Tryz.prog W0 120 [(ptr k0 0), (.int .u16 p1), (.int .u16 n2)] K m :=
  evFn_sound pureOk mixedP (fun w => Tryz.call120 _ w) ((e120 (callOK Tryz.prog W0) k0 p1 n2 K m).symm ▸ h)
def s120_1 (C : CallT) (k0 : Nat) (p1 : Int) (n2 : Int) (t6 : Int) (s7 : Int) (Kt : Exit → Fr → Mem → Prop) (m : Mem) : Prop :=
  ifB (decide (s7 < 64))
  (ldInt .u64 m k0 129 fun x_1 =>
  ifB ((bAnd .u64 x_1 (goSlotBit s7)) != 0)
  (ckI s7 64 fun j_2 =>
  ldInt .u16 m k0 (1 + j_2) fun x_3 =>
  ifB (x_3 == p1)
  (ckI s7 64 fun j_4 =>
  ldInt .u16 m k0 (65 + j_4) fun x_5 =>
  ifB (x_5 == n2)
  (Kt .ret [(0, (ptr k0 0)), (1, (.int .u16 p1)), (2, (.int .u16 n2)), (6, (.int .i64 s7)), (7, (.int .i64 s7))] m)
  (Kt .normal [(0, (ptr k0 0)), (1, (.int .u16 p1)), (2, (.int .u16 n2)), (6, (.int .i64 t6)), (7, (.int .i64 (IntKind.wrap .i64 (s7 + 1))))] m))
  (Kt .normal [(0, (ptr k0 0)), (1, (.int .u16 p1)), (2, (.int .u16 n2)), (6, (.int .i64 t6)), (7, (.int .i64 (IntKind.wrap .i64 (s7 + 1))))] m))
  (Kt .normal [(0, (ptr k0 0)), (1, (.int .u16 p1)), (2, (.int .u16 n2)), (6, (.int .i64 t6)), (7, (.int .i64 (IntKind.wrap .i64 (s7 + 1))))] m))
  (Kt (.exit 0) [(0, (ptr k0 0)), (1, (.int .u16 p1)), (2, (.int .u16 n2)), (6, (.int .i64 t6)), (7, (.int .i64 s7))] m)
theorem e120_1 {C : CallT} {k0 : Nat} {p1 : Int} {n2 : Int} {t6 : Int} {s7 : Int} {Kt : Exit → Fr → Mem → Prop} {m : Mem} (h : s120_1 C k0 p1 n2 t6 s7 Kt m) : evCode (cfgOf Tryz.prog pureF pureT C [(2, [0, 1, 2, 6, 7])] 120) (codeAt (bodyOf Tryz.prog 120) [1, 0, 1, 0, 0]) (trimK [0, 1, 2, 6, 7] Kt) [(0, (ptr k0 0)), (1, (.int .u16 p1)), (2, (.int .u16 n2)), (6, (.int .i64 t6)), (7, (.int .i64 s7))] m :=
  (show _ = _ by kernel_rfl : evCode (cfgOf Tryz.prog pureF pureT C [(2, [0, 1, 2, 6, 7])] 120) (codeAt (bodyOf Tryz.prog 120) [1, 0, 1, 0, 0]) (trimK [0, 1, 2, 6, 7] Kt) [(0, (ptr k0 0)), (1, (.int .u16 p1)), (2, (.int .u16 n2)), (6, (.int .i64 t6)), (7, (.int .i64 s7))] m = s120_1 C k0 p1 n2 t6 s7 Kt m).symm ▸ h
def s120_1r (C : CallT) (k0 : Nat) (p1 : Int) (n2 : Int) (t6 : Int) (s7 : Int) (K : Value → Mem → Prop) (m : Mem) : Prop :=
  K (.int .i64 t6) m
theorem e120_1r {C : CallT} {kn : Fr → Mem → Prop} {k0 : Nat} {p1 : Int} {n2 : Int} {t6 : Int} {s7 : Int} {K : Value → Mem → Prop} {m : Mem} : (andThenE kn (kAt (cfgOf Tryz.prog pureF pureT C [(2, [0, 1, 2, 6, 7])] 120) (bodyOf Tryz.prog 120) [1, 0, 1, 0] (endK Tryz.prog 120 K)) .ret [(0, (ptr k0 0)), (1, (.int .u16 p1)), (2, (.int .u16 n2)), (6, (.int .i64 t6)), (7, (.int .i64 s7))] m) = s120_1r C k0 p1 n2 t6 s7 K m := by kernel_rfl
def s120_1x0 (C : CallT) (k0 : Nat) (p1 : Int) (n2 : Int) (t6 : Int) (s7 : Int) (K : Value → Mem → Prop) (m : Mem) : Prop :=
  K (.int .i64 (-1)) m
theorem e120_1x0 {C : CallT} {kn : Fr → Mem → Prop} {k0 : Nat} {p1 : Int} {n2 : Int} {t6 : Int} {s7 : Int} {K : Value → Mem → Prop} {m : Mem} : (andThenE kn (kAt (cfgOf Tryz.prog pureF pureT C [(2, [0, 1, 2, 6, 7])] 120) (bodyOf Tryz.prog 120) [1, 0, 1, 0] (endK Tryz.prog 120 K)) (.exit 0) [(0, (ptr k0 0)), (1, (.int .u16 p1)), (2, (.int .u16 n2)), (6, (.int .i64 t6)), (7, (.int .i64 s7))] m) = s120_1x0 C k0 p1 n2 t6 s7 K m := by kernel_rfl
def F120_1 (k0 : Nat) (p1 : Int) (n2 : Int) (t6 : Int) (s7 : Int) : Fr := [(0, (ptr k0 0)), (1, (.int .u16 p1)), (2, (.int .u16 n2)), (6, (.int .i64 t6)), (7, (.int .i64 s7))]
theorem loop120_1 {C : CallT} {γ : Type} {k0 : Nat} {p1 : Int} {n2 : Int} {K : Value → Mem → Prop} {m : Mem} (J : γ → Int → Int → Mem → Prop) (μ : γ → Int → Int → Nat) (g : γ) {t6 : Int} {s7 : Int} (hJ : J g t6 s7 m)
    (hs : ∀ g t6 s7 m, J g t6 s7 m → s120_1 C k0 p1 n2 t6 s7 (andThenE (fun fr m' => ∃ g' t6' s7', fr = F120_1 k0 p1 n2 t6' s7' ∧ J g' t6' s7' m' ∧ μ g' t6' s7' < μ g t6 s7) (kAt (cfgOf Tryz.prog pureF pureT C [(2, [0, 1, 2, 6, 7])] 120) (bodyOf Tryz.prog 120) [1, 0, 1, 0] (endK Tryz.prog 120 K))) m) :
    loopE [0, 1, 2, 6, 7] (evCode (cfgOf Tryz.prog pureF pureT C [(2, [0, 1, 2, 6, 7])] 120) (codeAt (bodyOf Tryz.prog 120) [1, 0, 1, 0, 0])) (kAt (cfgOf Tryz.prog pureF pureT C [(2, [0, 1, 2, 6, 7])] 120) (bodyOf Tryz.prog 120) [1, 0, 1, 0] (endK Tryz.prog 120 K)) [(0, (ptr k0 0)), (1, (.int .u16 p1)), (2, (.int .u16 n2)), (6, (.int .i64 t6)), (7, (.int .i64 s7))] m := by
  refine loop_rule (σ := γ × Int × Int) (fun s => F120_1 k0 p1 n2 s.2.1 s.2.2) (fun s m => J s.1 s.2.1 s.2.2 m) (fun s => μ s.1 s.2.1 s.2.2) (g, t6, s7) rfl hJ ?_
  intro s m hJ
  have h := hs s.1 s.2.1 s.2.2 m hJ
  refine e120_1 ?_
  refine Eq.mp (congrArg (fun B => s120_1 C k0 p1 n2 s.2.1 s.2.2 (andThenE B (kAt (cfgOf Tryz.prog pureF pureT C [(2, [0, 1, 2, 6, 7])] 120) (bodyOf Tryz.prog 120) [1, 0, 1, 0] (endK Tryz.prog 120 K))) m) ?_) h
  funext fr m'
  apply propext
  constructor
  · rintro ⟨g', t6', s7', h1, h2, h3⟩
    exact ⟨(g', t6', s7'), h1, h2, h3⟩
  · rintro ⟨⟨g', t6', s7'⟩, h1, h2, h3⟩
    exact ⟨g', t6', s7', h1, h2, h3⟩

end Go.Proofs.Qxb6500974aGreat
