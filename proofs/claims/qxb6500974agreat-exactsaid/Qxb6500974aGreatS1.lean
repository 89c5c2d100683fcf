import Derived.Test.Qxb6500974aGreatPure
set_option linter.all false
set_option linter.unusedVariables false
set_option maxRecDepth 100000
namespace Go.Proofs.Qxb6500974aGreat
open Go.Eng

def s16 (C : CallT) (s0 : Nat) (K : Value → Mem → Prop) (m : Mem) : Prop :=
  ldSl m s0 4 fun l_1a l_1l l_1c =>
  ifB (((l_1l : Nat) : Int) != 0)
  (K (.bool false) m)
  (ldInt .i64 m s0 31 fun x_2 =>
  ifB (decide (x_2 < 1))
  (K (.bool false) m)
  (ldInt .i64 m s0 31 fun x_3 =>
  ifB (decide (x_3 > 4107))
  (K (.bool false) m)
  (ckI 0 13 fun j_4 =>
  ldInt .i64 m s0 (5 + j_4) fun x_5 =>
  ifB (x_5 != 0)
  (K (.bool false) m)
  (ckI 0 13 fun j_6 =>
  ldInt .i64 m s0 (18 + j_6) fun x_7 =>
  ifB (x_7 != (-1))
  (K (.bool false) m)
  (loopE [0, 2, 3] (evCode (cfgOf Tryz.prog pureF pureT C [(8, [0, 2, 3]), (16, [0, 2, 4, 5])] 16) (codeAt (bodyOf Tryz.prog 16) [1, 1, 1, 1, 0, 1, 0, 0])) (kAt (cfgOf Tryz.prog pureF pureT C [(8, [0, 2, 3]), (16, [0, 2, 4, 5])] 16) (bodyOf Tryz.prog 16) [1, 1, 1, 1, 0, 1, 0] (endK Tryz.prog 16 K)) [(0, (ptr s0 0)), (2, (.bool false)), (3, (.int .i64 1))] m)))))
theorem e16 (C : CallT) (s0 : Nat) (K : Value → Mem → Prop) (m : Mem) : evFn Tryz.prog pureF pureT C [(8, [0, 2, 3]), (16, [0, 2, 4, 5])] 16 [(ptr s0 0)] K m = s16 C s0 K m := by kernel_rfl
theorem call16 {W0 : World} {s0 : Nat} {K : Value → Mem → Prop} {m : Mem} (h : s16 (callOK Tryz.prog W0) s0 K m) : callOK Tryz.prog W0 16 [(ptr s0 0)] K m :=
  evFn_sound pureOk mixedP (fun w => Tryz.call16 _ w) ((e16 (callOK Tryz.prog W0) s0 K m).symm ▸ h)
def s16_1 (C : CallT) (s0 : Nat) (t2 : Bool) (v3 : Int) (Kt : Exit → Fr → Mem → Prop) (m : Mem) : Prop :=
  ifB (decide (v3 ≤ 12))
  (ckI v3 13 fun j_8 =>
  ldInt .i64 m s0 (5 + j_8) fun x_9 =>
  ifB (decide (x_9 < 0))
  (Kt .ret [(0, (ptr s0 0)), (2, (.bool false)), (3, (.int .i64 v3))] m)
  (ckI v3 13 fun j_10 =>
  ldInt .i64 m s0 (18 + j_10) fun x_11 =>
  ifB (x_11 != 1)
  (ckI v3 13 fun j_12 =>
  ldInt .i64 m s0 (18 + j_12) fun x_13 =>
  ifB (x_13 != (-1))
  (Kt .ret [(0, (ptr s0 0)), (2, (.bool false)), (3, (.int .i64 v3))] m)
  (Kt .normal [(0, (ptr s0 0)), (2, (.bool t2)), (3, (.int .i64 (IntKind.wrap .i64 (v3 + 1))))] m))
  (Kt .normal [(0, (ptr s0 0)), (2, (.bool t2)), (3, (.int .i64 (IntKind.wrap .i64 (v3 + 1))))] m)))
  (Kt (.exit 0) [(0, (ptr s0 0)), (2, (.bool t2)), (3, (.int .i64 v3))] m)
theorem e16_1 {C : CallT} {s0 : Nat} {t2 : Bool} {v3 : Int} {Kt : Exit → Fr → Mem → Prop} {m : Mem} (h : s16_1 C s0 t2 v3 Kt m) : evCode (cfgOf Tryz.prog pureF pureT C [(8, [0, 2, 3]), (16, [0, 2, 4, 5])] 16) (codeAt (bodyOf Tryz.prog 16) [1, 1, 1, 1, 0, 1, 0, 0]) (trimK [0, 2, 3] Kt) [(0, (ptr s0 0)), (2, (.bool t2)), (3, (.int .i64 v3))] m :=
  (show _ = _ by kernel_rfl : evCode (cfgOf Tryz.prog pureF pureT C [(8, [0, 2, 3]), (16, [0, 2, 4, 5])] 16) (codeAt (bodyOf Tryz.prog 16) [1, 1, 1, 1, 0, 1, 0, 0]) (trimK [0, 2, 3] Kt) [(0, (ptr s0 0)), (2, (.bool t2)), (3, (.int .i64 v3))] m = s16_1 C s0 t2 v3 Kt m).symm ▸ h
def s16_1r (C : CallT) (s0 : Nat) (t2 : Bool) (v3 : Int) (K : Value → Mem → Prop) (m : Mem) : Prop :=
  K (.bool t2) m
theorem e16_1r {C : CallT} {kn : Fr → Mem → Prop} {s0 : Nat} {t2 : Bool} {v3 : Int} {K : Value → Mem → Prop} {m : Mem} : (andThenE kn (kAt (cfgOf Tryz.prog pureF pureT C [(8, [0, 2, 3]), (16, [0, 2, 4, 5])] 16) (bodyOf Tryz.prog 16) [1, 1, 1, 1, 0, 1, 0] (endK Tryz.prog 16 K)) .ret [(0, (ptr s0 0)), (2, (.bool t2)), (3, (.int .i64 v3))] m) = s16_1r C s0 t2 v3 K m := by kernel_rfl
def s16_1x0 (C : CallT) (s0 : Nat) (t2 : Bool) (v3 : Int) (K : Value → Mem → Prop) (m : Mem) : Prop :=
  loopE [0, 2, 4, 5] (evCode (cfgOf Tryz.prog pureF pureT C [(8, [0, 2, 3]), (16, [0, 2, 4, 5])] 16) (codeAt (bodyOf Tryz.prog 16) [1, 1, 1, 1, 1, 1, 0, 1, 0, 0])) (kAt (cfgOf Tryz.prog pureF pureT C [(8, [0, 2, 3]), (16, [0, 2, 4, 5])] 16) (bodyOf Tryz.prog 16) [1, 1, 1, 1, 1, 1, 0, 1, 0] (endK Tryz.prog 16 K)) [(0, (ptr s0 0)), (2, (.bool t2)), (4, (.int .i64 0)), (5, (.int .i64 0))] m
theorem e16_1x0 {C : CallT} {kn : Fr → Mem → Prop} {s0 : Nat} {t2 : Bool} {v3 : Int} {K : Value → Mem → Prop} {m : Mem} : (andThenE kn (kAt (cfgOf Tryz.prog pureF pureT C [(8, [0, 2, 3]), (16, [0, 2, 4, 5])] 16) (bodyOf Tryz.prog 16) [1, 1, 1, 1, 0, 1, 0] (endK Tryz.prog 16 K)) (.exit 0) [(0, (ptr s0 0)), (2, (.bool t2)), (3, (.int .i64 v3))] m) = s16_1x0 C s0 t2 v3 K m := by kernel_rfl
def s16_2 (C : CallT) (s0 : Nat) (t2 : Bool) (n4 : Int) (k5 : Int) (Kt : Exit → Fr → Mem → Prop) (m : Mem) : Prop :=
  ifB (decide (k5 < 12))
  (ldPtr m s0 2 fun p_14 =>
  C 46 [(.pointer p_14), (.int .i64 (IntKind.wrap .i64 (40 + k5)))] (fun rm_17 m_17 =>
  ∃ x_15a x_15l x_15c x_16, rm_17 = (.tuple #[(.slice x_15a x_15l x_15c), (.int .i64 x_16)]) ∧
  ldInt .u16 m_17 s0 32 fun x_18 =>
  (0 : Int) ≤ (IntKind.wrap .u64 k5) ∧
  ifB (!(((bAnd .u16 (shrV .u16 x_18 (IntKind.wrap .u64 k5)) 1) == 1) == (x_16 == 0)))
  (Kt .ret [(0, (ptr s0 0)), (2, (.bool false)), (4, (.int .i64 n4)), (5, (.int .i64 k5))] m_17)
  (ifB ((bAnd .u16 (shrV .u16 x_18 (IntKind.wrap .u64 k5)) 1) == 1)
  (Kt .normal [(0, (ptr s0 0)), (2, (.bool t2)), (4, (.int .i64 (IntKind.wrap .i64 (n4 + 1)))), (5, (.int .i64 (IntKind.wrap .i64 (k5 + 1))))] m_17)
  (Kt .normal [(0, (ptr s0 0)), (2, (.bool t2)), (4, (.int .i64 n4)), (5, (.int .i64 (IntKind.wrap .i64 (k5 + 1))))] m_17))) m)
  (Kt (.exit 2) [(0, (ptr s0 0)), (2, (.bool t2)), (4, (.int .i64 n4)), (5, (.int .i64 k5))] m)
theorem e16_2 {C : CallT} {s0 : Nat} {t2 : Bool} {n4 : Int} {k5 : Int} {Kt : Exit → Fr → Mem → Prop} {m : Mem} (h : s16_2 C s0 t2 n4 k5 Kt m) : evCode (cfgOf Tryz.prog pureF pureT C [(8, [0, 2, 3]), (16, [0, 2, 4, 5])] 16) (codeAt (bodyOf Tryz.prog 16) [1, 1, 1, 1, 1, 1, 0, 1, 0, 0]) (trimK [0, 2, 4, 5] Kt) [(0, (ptr s0 0)), (2, (.bool t2)), (4, (.int .i64 n4)), (5, (.int .i64 k5))] m :=
  (show _ = _ by kernel_rfl : evCode (cfgOf Tryz.prog pureF pureT C [(8, [0, 2, 3]), (16, [0, 2, 4, 5])] 16) (codeAt (bodyOf Tryz.prog 16) [1, 1, 1, 1, 1, 1, 0, 1, 0, 0]) (trimK [0, 2, 4, 5] Kt) [(0, (ptr s0 0)), (2, (.bool t2)), (4, (.int .i64 n4)), (5, (.int .i64 k5))] m = s16_2 C s0 t2 n4 k5 Kt m).symm ▸ h
def s16_2r (C : CallT) (s0 : Nat) (t2 : Bool) (n4 : Int) (k5 : Int) (K : Value → Mem → Prop) (m : Mem) : Prop :=
  K (.bool t2) m
theorem e16_2r {C : CallT} {kn : Fr → Mem → Prop} {s0 : Nat} {t2 : Bool} {n4 : Int} {k5 : Int} {K : Value → Mem → Prop} {m : Mem} : (andThenE kn (kAt (cfgOf Tryz.prog pureF pureT C [(8, [0, 2, 3]), (16, [0, 2, 4, 5])] 16) (bodyOf Tryz.prog 16) [1, 1, 1, 1, 1, 1, 0, 1, 0] (endK Tryz.prog 16 K)) .ret [(0, (ptr s0 0)), (2, (.bool t2)), (4, (.int .i64 n4)), (5, (.int .i64 k5))] m) = s16_2r C s0 t2 n4 k5 K m := by kernel_rfl
def s16_2x2 (C : CallT) (s0 : Nat) (t2 : Bool) (n4 : Int) (k5 : Int) (K : Value → Mem → Prop) (m : Mem) : Prop :=
  ldInt .i64 m s0 33 fun x_19 =>
  ifB (n4 != x_19)
  (K (.bool false) m)
  (ldInt .u16 m s0 32 fun x_20 =>
  (0 : Int) ≤ 12 ∧
  ifB ((shrV .u16 x_20 12) != 0)
  (K (.bool false) m)
  (ldInt .i64 m s0 35 fun x_21 =>
  ifB (decide (x_21 < 0))
  (K (.bool false) m)
  (ldInt .i64 m s0 35 fun x_22 =>
  ifB (decide (x_22 > 4))
  (K (.bool false) m)
  (ldInt .i64 m s0 36 fun x_23 =>
  ifB (decide (x_23 < 0))
  (K (.bool false) m)
  (ldInt .i64 m s0 36 fun x_24 =>
  ldInt .i64 m s0 34 fun x_25 =>
  ifB (decide (x_24 > x_25))
  (K (.bool false) m)
  (ldInt .i64 m s0 34 fun x_26 =>
  ifB (decide (x_26 > 4106))
  (K (.bool false) m)
  (ldInt .i64 m s0 35 fun x_27 =>
  ifB (decide ((goInterval x_27) > 0))
  (ldInt .i64 m s0 36 fun x_28 =>
  ifB (decide (x_28 ≥ (goInterval x_27)))
  (K (.bool false) m)
  (K (.bool true) m))
  (K (.bool true) m))))))))
theorem e16_2x2 {C : CallT} {kn : Fr → Mem → Prop} {s0 : Nat} {t2 : Bool} {n4 : Int} {k5 : Int} {K : Value → Mem → Prop} {m : Mem} : (andThenE kn (kAt (cfgOf Tryz.prog pureF pureT C [(8, [0, 2, 3]), (16, [0, 2, 4, 5])] 16) (bodyOf Tryz.prog 16) [1, 1, 1, 1, 1, 1, 0, 1, 0] (endK Tryz.prog 16 K)) (.exit 2) [(0, (ptr s0 0)), (2, (.bool t2)), (4, (.int .i64 n4)), (5, (.int .i64 k5))] m) = s16_2x2 C s0 t2 n4 k5 K m := by kernel_rfl
def F16_1 (s0 : Nat) (t2 : Bool) (v3 : Int) : Fr := [(0, (ptr s0 0)), (2, (.bool t2)), (3, (.int .i64 v3))]
theorem loop16_1 {C : CallT} {γ : Type} {s0 : Nat} {K : Value → Mem → Prop} {m : Mem} (J : γ → Bool → Int → Mem → Prop) (μ : γ → Bool → Int → Nat) (g : γ) {t2 : Bool} {v3 : Int} (hJ : J g t2 v3 m)
    (hs : ∀ g t2 v3 m, J g t2 v3 m → s16_1 C s0 t2 v3 (andThenE (fun fr m' => ∃ g' t2' v3', fr = F16_1 s0 t2' v3' ∧ J g' t2' v3' m' ∧ μ g' t2' v3' < μ g t2 v3) (kAt (cfgOf Tryz.prog pureF pureT C [(8, [0, 2, 3]), (16, [0, 2, 4, 5])] 16) (bodyOf Tryz.prog 16) [1, 1, 1, 1, 0, 1, 0] (endK Tryz.prog 16 K))) m) :
    loopE [0, 2, 3] (evCode (cfgOf Tryz.prog pureF pureT C [(8, [0, 2, 3]), (16, [0, 2, 4, 5])] 16) (codeAt (bodyOf Tryz.prog 16) [1, 1, 1, 1, 0, 1, 0, 0])) (kAt (cfgOf Tryz.prog pureF pureT C [(8, [0, 2, 3]), (16, [0, 2, 4, 5])] 16) (bodyOf Tryz.prog 16) [1, 1, 1, 1, 0, 1, 0] (endK Tryz.prog 16 K)) [(0, (ptr s0 0)), (2, (.bool t2)), (3, (.int .i64 v3))] m := by
  refine loop_rule (σ := γ × Bool × Int) (fun s => F16_1 s0 s.2.1 s.2.2) (fun s m => J s.1 s.2.1 s.2.2 m) (fun s => μ s.1 s.2.1 s.2.2) (g, t2, v3) rfl hJ ?_
  intro s m hJ
  have h := hs s.1 s.2.1 s.2.2 m hJ
  refine e16_1 ?_
  refine Eq.mp (congrArg (fun B => s16_1 C s0 s.2.1 s.2.2 (andThenE B (kAt (cfgOf Tryz.prog pureF pureT C [(8, [0, 2, 3]), (16, [0, 2, 4, 5])] 16) (bodyOf Tryz.prog 16) [1, 1, 1, 1, 0, 1, 0] (endK Tryz.prog 16 K))) m) ?_) h
  funext fr m'
  apply propext
  constructor
  · rintro ⟨g', t2', v3', h1, h2, h3⟩
    exact ⟨(g', t2', v3'), h1, h2, h3⟩
  · rintro ⟨⟨g', t2', v3'⟩, h1, h2, h3⟩
    exact ⟨g', t2', v3', h1, h2, h3⟩
def F16_2 (s0 : Nat) (t2 : Bool) (n4 : Int) (k5 : Int) : Fr := [(0, (ptr s0 0)), (2, (.bool t2)), (4, (.int .i64 n4)), (5, (.int .i64 k5))]
theorem loop16_2 {C : CallT} {γ : Type} {s0 : Nat} {K : Value → Mem → Prop} {m : Mem} (J : γ → Bool → Int → Int → Mem → Prop) (μ : γ → Bool → Int → Int → Nat) (g : γ) {t2 : Bool} {n4 : Int} {k5 : Int} (hJ : J g t2 n4 k5 m)
    (hs : ∀ g t2 n4 k5 m, J g t2 n4 k5 m → s16_2 C s0 t2 n4 k5 (andThenE (fun fr m' => ∃ g' t2' n4' k5', fr = F16_2 s0 t2' n4' k5' ∧ J g' t2' n4' k5' m' ∧ μ g' t2' n4' k5' < μ g t2 n4 k5) (kAt (cfgOf Tryz.prog pureF pureT C [(8, [0, 2, 3]), (16, [0, 2, 4, 5])] 16) (bodyOf Tryz.prog 16) [1, 1, 1, 1, 1, 1, 0, 1, 0] (endK Tryz.prog 16 K))) m) :
    loopE [0, 2, 4, 5] (evCode (cfgOf Tryz.prog pureF pureT C [(8, [0, 2, 3]), (16, [0, 2, 4, 5])] 16) (codeAt (bodyOf Tryz.prog 16) [1, 1, 1, 1, 1, 1, 0, 1, 0, 0])) (kAt (cfgOf Tryz.prog pureF pureT C [(8, [0, 2, 3]), (16, [0, 2, 4, 5])] 16) (bodyOf Tryz.prog 16) [1, 1, 1, 1, 1, 1, 0, 1, 0] (endK Tryz.prog 16 K)) [(0, (ptr s0 0)), (2, (.bool t2)), (4, (.int .i64 n4)), (5, (.int .i64 k5))] m := by
  refine loop_rule (σ := γ × Bool × Int × Int) (fun s => F16_2 s0 s.2.1 s.2.2.1 s.2.2.2) (fun s m => J s.1 s.2.1 s.2.2.1 s.2.2.2 m) (fun s => μ s.1 s.2.1 s.2.2.1 s.2.2.2) (g, t2, n4, k5) rfl hJ ?_
  intro s m hJ
  have h := hs s.1 s.2.1 s.2.2.1 s.2.2.2 m hJ
  refine e16_2 ?_
  refine Eq.mp (congrArg (fun B => s16_2 C s0 s.2.1 s.2.2.1 s.2.2.2 (andThenE B (kAt (cfgOf Tryz.prog pureF pureT C [(8, [0, 2, 3]), (16, [0, 2, 4, 5])] 16) (bodyOf Tryz.prog 16) [1, 1, 1, 1, 1, 1, 0, 1, 0] (endK Tryz.prog 16 K))) m) ?_) h
  funext fr m'
  apply propext
  constructor
  · rintro ⟨g', t2', n4', k5', h1, h2, h3⟩
    exact ⟨(g', t2', n4', k5'), h1, h2, h3⟩
  · rintro ⟨⟨g', t2', n4', k5'⟩, h1, h2, h3⟩
    exact ⟨g', t2', n4', k5', h1, h2, h3⟩

def s17 (C : CallT) (k0 : Nat) (K : Value → Mem → Prop) (m : Mem) : Prop :=
  loopE [0, 2, 3, 4] (evCode (cfgOf Tryz.prog pureF pureT C [(3, [0, 2, 3, 4])] 17) (codeAt (bodyOf Tryz.prog 17) [1, 1, 0, 1, 0, 0])) (kAt (cfgOf Tryz.prog pureF pureT C [(3, [0, 2, 3, 4])] 17) (bodyOf Tryz.prog 17) [1, 1, 0, 1, 0] (endK Tryz.prog 17 K)) [(0, (ptr k0 0)), (2, (.bool false)), (3, (.int .i64 0)), (4, (.int .i64 0))] m
theorem e17 (C : CallT) (k0 : Nat) (K : Value → Mem → Prop) (m : Mem) : evFn Tryz.prog pureF pureT C [(3, [0, 2, 3, 4])] 17 [(ptr k0 0)] K m = s17 C k0 K m := by kernel_rfl
theorem call17 {W0 : World} {k0 : Nat} {K : Value → Mem → Prop} {m : Mem} (h : s17 (callOK Tryz.prog W0) k0 K m) : callOK Tryz.prog W0 17 [(ptr k0 0)] K m :=
  evFn_sound pureOk mixedP (fun w => Tryz.call17 _ w) ((e17 (callOK Tryz.prog W0) k0 K m).symm ▸ h)
def s17_1 (C : CallT) (k0 : Nat) (t2 : Bool) (count3 : Int) (s4 : Int) (Kt : Exit → Fr → Mem → Prop) (m : Mem) : Prop :=
  ifB (decide (s4 < 64))
  (ckI s4 64 fun j_1 =>
  ldInt .u16 m k0 (1 + j_1) fun x_2 =>
  ckI s4 64 fun j_3 =>
  ldInt .u16 m k0 (65 + j_3) fun x_4 =>
  ldInt .u64 m k0 129 fun x_5 =>
  ifB ((bAnd .u64 x_5 (goSlotBit s4)) == 0)
  (ifB ((bOr .u16 x_2 x_4) != 0)
  (Kt .ret [(0, (ptr k0 0)), (2, (.bool false)), (3, (.int .i64 count3)), (4, (.int .i64 s4))] m)
  (Kt .normal [(0, (ptr k0 0)), (2, (.bool t2)), (3, (.int .i64 count3)), (4, (.int .i64 (IntKind.wrap .i64 (s4 + 1))))] m))
  (ifB ((bAnd .u16 x_2 x_4) != 0)
  (Kt .ret [(0, (ptr k0 0)), (2, (.bool false)), (3, (.int .i64 count3)), (4, (.int .i64 s4))] m)
  (ifB ((bAndNot .u16 (bOr .u16 x_2 x_4) 4095) != 0)
  (Kt .ret [(0, (ptr k0 0)), (2, (.bool false)), (3, (.int .i64 count3)), (4, (.int .i64 s4))] m)
  (ifB ((bOr .u16 x_2 x_4) == 0)
  (Kt .normal [(0, (ptr k0 0)), (2, (.bool t2)), (3, (.int .i64 (IntKind.wrap .i64 (count3 + 1)))), (4, (.int .i64 (IntKind.wrap .i64 (s4 + 1))))] m)
  (Kt .normal [(0, (ptr k0 0)), (2, (.bool t2)), (3, (.int .i64 count3)), (4, (.int .i64 (IntKind.wrap .i64 (s4 + 1))))] m)))))
  (Kt (.exit 0) [(0, (ptr k0 0)), (2, (.bool t2)), (3, (.int .i64 count3)), (4, (.int .i64 s4))] m)
theorem e17_1 {C : CallT} {k0 : Nat} {t2 : Bool} {count3 : Int} {s4 : Int} {Kt : Exit → Fr → Mem → Prop} {m : Mem} (h : s17_1 C k0 t2 count3 s4 Kt m) : evCode (cfgOf Tryz.prog pureF pureT C [(3, [0, 2, 3, 4])] 17) (codeAt (bodyOf Tryz.prog 17) [1, 1, 0, 1, 0, 0]) (trimK [0, 2, 3, 4] Kt) [(0, (ptr k0 0)), (2, (.bool t2)), (3, (.int .i64 count3)), (4, (.int .i64 s4))] m :=
  (show _ = _ by kernel_rfl : evCode (cfgOf Tryz.prog pureF pureT C [(3, [0, 2, 3, 4])] 17) (codeAt (bodyOf Tryz.prog 17) [1, 1, 0, 1, 0, 0]) (trimK [0, 2, 3, 4] Kt) [(0, (ptr k0 0)), (2, (.bool t2)), (3, (.int .i64 count3)), (4, (.int .i64 s4))] m = s17_1 C k0 t2 count3 s4 Kt m).symm ▸ h
def s17_1r (C : CallT) (k0 : Nat) (t2 : Bool) (count3 : Int) (s4 : Int) (K : Value → Mem → Prop) (m : Mem) : Prop :=
  K (.bool t2) m
theorem e17_1r {C : CallT} {kn : Fr → Mem → Prop} {k0 : Nat} {t2 : Bool} {count3 : Int} {s4 : Int} {K : Value → Mem → Prop} {m : Mem} : (andThenE kn (kAt (cfgOf Tryz.prog pureF pureT C [(3, [0, 2, 3, 4])] 17) (bodyOf Tryz.prog 17) [1, 1, 0, 1, 0] (endK Tryz.prog 17 K)) .ret [(0, (ptr k0 0)), (2, (.bool t2)), (3, (.int .i64 count3)), (4, (.int .i64 s4))] m) = s17_1r C k0 t2 count3 s4 K m := by kernel_rfl
def s17_1x0 (C : CallT) (k0 : Nat) (t2 : Bool) (count3 : Int) (s4 : Int) (K : Value → Mem → Prop) (m : Mem) : Prop :=
  ldInt .i64 m k0 130 fun x_6 =>
  ifB (count3 == x_6)
  (ldPtr m k0 0 fun p_7 =>
  K (.bool (!(Option.isNone p_7))) m)
  (K (.bool false) m)
theorem e17_1x0 {C : CallT} {kn : Fr → Mem → Prop} {k0 : Nat} {t2 : Bool} {count3 : Int} {s4 : Int} {K : Value → Mem → Prop} {m : Mem} : (andThenE kn (kAt (cfgOf Tryz.prog pureF pureT C [(3, [0, 2, 3, 4])] 17) (bodyOf Tryz.prog 17) [1, 1, 0, 1, 0] (endK Tryz.prog 17 K)) (.exit 0) [(0, (ptr k0 0)), (2, (.bool t2)), (3, (.int .i64 count3)), (4, (.int .i64 s4))] m) = s17_1x0 C k0 t2 count3 s4 K m := by kernel_rfl
def F17_1 (k0 : Nat) (t2 : Bool) (count3 : Int) (s4 : Int) : Fr := [(0, (ptr k0 0)), (2, (.bool t2)), (3, (.int .i64 count3)), (4, (.int .i64 s4))]
theorem loop17_1 {C : CallT} {γ : Type} {k0 : Nat} {K : Value → Mem → Prop} {m : Mem} (J : γ → Bool → Int → Int → Mem → Prop) (μ : γ → Bool → Int → Int → Nat) (g : γ) {t2 : Bool} {count3 : Int} {s4 : Int} (hJ : J g t2 count3 s4 m)
    (hs : ∀ g t2 count3 s4 m, J g t2 count3 s4 m → s17_1 C k0 t2 count3 s4 (andThenE (fun fr m' => ∃ g' t2' count3' s4', fr = F17_1 k0 t2' count3' s4' ∧ J g' t2' count3' s4' m' ∧ μ g' t2' count3' s4' < μ g t2 count3 s4) (kAt (cfgOf Tryz.prog pureF pureT C [(3, [0, 2, 3, 4])] 17) (bodyOf Tryz.prog 17) [1, 1, 0, 1, 0] (endK Tryz.prog 17 K))) m) :
    loopE [0, 2, 3, 4] (evCode (cfgOf Tryz.prog pureF pureT C [(3, [0, 2, 3, 4])] 17) (codeAt (bodyOf Tryz.prog 17) [1, 1, 0, 1, 0, 0])) (kAt (cfgOf Tryz.prog pureF pureT C [(3, [0, 2, 3, 4])] 17) (bodyOf Tryz.prog 17) [1, 1, 0, 1, 0] (endK Tryz.prog 17 K)) [(0, (ptr k0 0)), (2, (.bool t2)), (3, (.int .i64 count3)), (4, (.int .i64 s4))] m := by
  refine loop_rule (σ := γ × Bool × Int × Int) (fun s => F17_1 k0 s.2.1 s.2.2.1 s.2.2.2) (fun s m => J s.1 s.2.1 s.2.2.1 s.2.2.2 m) (fun s => μ s.1 s.2.1 s.2.2.1 s.2.2.2) (g, t2, count3, s4) rfl hJ ?_
  intro s m hJ
  have h := hs s.1 s.2.1 s.2.2.1 s.2.2.2 m hJ
  refine e17_1 ?_
  refine Eq.mp (congrArg (fun B => s17_1 C k0 s.2.1 s.2.2.1 s.2.2.2 (andThenE B (kAt (cfgOf Tryz.prog pureF pureT C [(3, [0, 2, 3, 4])] 17) (bodyOf Tryz.prog 17) [1, 1, 0, 1, 0] (endK Tryz.prog 17 K))) m) ?_) h
  funext fr m'
  apply propext
  constructor
  · rintro ⟨g', t2', count3', s4', h1, h2, h3⟩
    exact ⟨(g', t2', count3', s4'), h1, h2, h3⟩
  · rintro ⟨⟨g', t2', count3', s4'⟩, h1, h2, h3⟩
    exact ⟨g', t2', count3', s4', h1, h2, h3⟩

def s18 (C : CallT) (a0a : Option Addr) (a0l a0c : Nat) (b1a : Option Addr) (b1l b1c : Nat) (K : Value → Mem → Prop) (m : Mem) : Prop :=
  ifB (((a0l : Nat) : Int) != ((b1l : Nat) : Int))
  (K (.bool false) m)
  (loopE [0, 1, 4, 5] (evCode (cfgOf Tryz.prog pureF pureT C [(4, [0, 1, 4, 5])] 18) (codeAt (bodyOf Tryz.prog 18) [1, 1, 0, 1, 0, 0])) (kAt (cfgOf Tryz.prog pureF pureT C [(4, [0, 1, 4, 5])] 18) (bodyOf Tryz.prog 18) [1, 1, 0, 1, 0] (endK Tryz.prog 18 K)) [(0, (.slice a0a a0l a0c)), (1, (.slice b1a b1l b1c)), (4, (.bool false)), (5, (.int .i64 0))] m)
theorem e18 (C : CallT) (a0a : Option Addr) (a0l a0c : Nat) (b1a : Option Addr) (b1l b1c : Nat) (K : Value → Mem → Prop) (m : Mem) : evFn Tryz.prog pureF pureT C [(4, [0, 1, 4, 5])] 18 [(.slice a0a a0l a0c), (.slice b1a b1l b1c)] K m = s18 C a0a a0l a0c b1a b1l b1c K m := by kernel_rfl
theorem call18 {W0 : World} {a0a : Option Addr} {a0l a0c : Nat} {b1a : Option Addr} {b1l b1c : Nat} {K : Value → Mem → Prop} {m : Mem} (h : s18 (callOK Tryz.prog W0) a0a a0l a0c b1a b1l b1c K m) : callOK Tryz.prog W0 18 [(.slice a0a a0l a0c), (.slice b1a b1l b1c)] K m :=
  evFn_sound pureOk mixedP (fun w => Tryz.call18 _ w) ((e18 (callOK Tryz.prog W0) a0a a0l a0c b1a b1l b1c K m).symm ▸ h)
def s18_1 (C : CallT) (a0a : Option Addr) (a0l a0c : Nat) (b1a : Option Addr) (b1l b1c : Nat) (t4 : Bool) (i5 : Int) (Kt : Exit → Fr → Mem → Prop) (m : Mem) : Prop :=
  ifB (decide (i5 < ((a0l : Nat) : Int)))
  (ckP a0a fun b_1 o_1 =>
  ckI i5 a0l fun j_2 =>
  ldInt .i64 m b_1 (o_1 + j_2) fun x_3 =>
  ckP b1a fun b_4 o_4 =>
  ckI i5 b1l fun j_5 =>
  ldInt .i64 m b_4 (o_4 + j_5) fun x_6 =>
  ifB (x_3 != x_6)
  (Kt .ret [(0, (.slice a0a a0l a0c)), (1, (.slice b1a b1l b1c)), (4, (.bool false)), (5, (.int .i64 i5))] m)
  (Kt .normal [(0, (.slice a0a a0l a0c)), (1, (.slice b1a b1l b1c)), (4, (.bool t4)), (5, (.int .i64 (IntKind.wrap .i64 (i5 + 1))))] m))
  (Kt (.exit 0) [(0, (.slice a0a a0l a0c)), (1, (.slice b1a b1l b1c)), (4, (.bool t4)), (5, (.int .i64 i5))] m)
theorem e18_1 {C : CallT} {a0a : Option Addr} {a0l a0c : Nat} {b1a : Option Addr} {b1l b1c : Nat} {t4 : Bool} {i5 : Int} {Kt : Exit → Fr → Mem → Prop} {m : Mem} (h : s18_1 C a0a a0l a0c b1a b1l b1c t4 i5 Kt m) : evCode (cfgOf Tryz.prog pureF pureT C [(4, [0, 1, 4, 5])] 18) (codeAt (bodyOf Tryz.prog 18) [1, 1, 0, 1, 0, 0]) (trimK [0, 1, 4, 5] Kt) [(0, (.slice a0a a0l a0c)), (1, (.slice b1a b1l b1c)), (4, (.bool t4)), (5, (.int .i64 i5))] m :=
  (show _ = _ by kernel_rfl : evCode (cfgOf Tryz.prog pureF pureT C [(4, [0, 1, 4, 5])] 18) (codeAt (bodyOf Tryz.prog 18) [1, 1, 0, 1, 0, 0]) (trimK [0, 1, 4, 5] Kt) [(0, (.slice a0a a0l a0c)), (1, (.slice b1a b1l b1c)), (4, (.bool t4)), (5, (.int .i64 i5))] m = s18_1 C a0a a0l a0c b1a b1l b1c t4 i5 Kt m).symm ▸ h
def s18_1r (C : CallT) (a0a : Option Addr) (a0l a0c : Nat) (b1a : Option Addr) (b1l b1c : Nat) (t4 : Bool) (i5 : Int) (K : Value → Mem → Prop) (m : Mem) : Prop :=
  K (.bool t4) m
theorem e18_1r {C : CallT} {kn : Fr → Mem → Prop} {a0a : Option Addr} {a0l a0c : Nat} {b1a : Option Addr} {b1l b1c : Nat} {t4 : Bool} {i5 : Int} {K : Value → Mem → Prop} {m : Mem} : (andThenE kn (kAt (cfgOf Tryz.prog pureF pureT C [(4, [0, 1, 4, 5])] 18) (bodyOf Tryz.prog 18) [1, 1, 0, 1, 0] (endK Tryz.prog 18 K)) .ret [(0, (.slice a0a a0l a0c)), (1, (.slice b1a b1l b1c)), (4, (.bool t4)), (5, (.int .i64 i5))] m) = s18_1r C a0a a0l a0c b1a b1l b1c t4 i5 K m := by kernel_rfl
def s18_1x0 (C : CallT) (a0a : Option Addr) (a0l a0c : Nat) (b1a : Option Addr) (b1l b1c : Nat) (t4 : Bool) (i5 : Int) (K : Value → Mem → Prop) (m : Mem) : Prop :=
  K (.bool true) m
theorem e18_1x0 {C : CallT} {kn : Fr → Mem → Prop} {a0a : Option Addr} {a0l a0c : Nat} {b1a : Option Addr} {b1l b1c : Nat} {t4 : Bool} {i5 : Int} {K : Value → Mem → Prop} {m : Mem} : (andThenE kn (kAt (cfgOf Tryz.prog pureF pureT C [(4, [0, 1, 4, 5])] 18) (bodyOf Tryz.prog 18) [1, 1, 0, 1, 0] (endK Tryz.prog 18 K)) (.exit 0) [(0, (.slice a0a a0l a0c)), (1, (.slice b1a b1l b1c)), (4, (.bool t4)), (5, (.int .i64 i5))] m) = s18_1x0 C a0a a0l a0c b1a b1l b1c t4 i5 K m := by kernel_rfl
def F18_1 (a0a : Option Addr) (a0l a0c : Nat) (b1a : Option Addr) (b1l b1c : Nat) (t4 : Bool) (i5 : Int) : Fr := [(0, (.slice a0a a0l a0c)), (1, (.slice b1a b1l b1c)), (4, (.bool t4)), (5, (.int .i64 i5))]
theorem loop18_1 {C : CallT} {γ : Type} {a0a : Option Addr} {a0l a0c : Nat} {b1a : Option Addr} {b1l b1c : Nat} {K : Value → Mem → Prop} {m : Mem} (J : γ → Bool → Int → Mem → Prop) (μ : γ → Bool → Int → Nat) (g : γ) {t4 : Bool} {i5 : Int} (hJ : J g t4 i5 m)
    (hs : ∀ g t4 i5 m, J g t4 i5 m → s18_1 C a0a a0l a0c b1a b1l b1c t4 i5 (andThenE (fun fr m' => ∃ g' t4' i5', fr = F18_1 a0a a0l a0c b1a b1l b1c t4' i5' ∧ J g' t4' i5' m' ∧ μ g' t4' i5' < μ g t4 i5) (kAt (cfgOf Tryz.prog pureF pureT C [(4, [0, 1, 4, 5])] 18) (bodyOf Tryz.prog 18) [1, 1, 0, 1, 0] (endK Tryz.prog 18 K))) m) :
    loopE [0, 1, 4, 5] (evCode (cfgOf Tryz.prog pureF pureT C [(4, [0, 1, 4, 5])] 18) (codeAt (bodyOf Tryz.prog 18) [1, 1, 0, 1, 0, 0])) (kAt (cfgOf Tryz.prog pureF pureT C [(4, [0, 1, 4, 5])] 18) (bodyOf Tryz.prog 18) [1, 1, 0, 1, 0] (endK Tryz.prog 18 K)) [(0, (.slice a0a a0l a0c)), (1, (.slice b1a b1l b1c)), (4, (.bool t4)), (5, (.int .i64 i5))] m := by
  refine loop_rule (σ := γ × Bool × Int) (fun s => F18_1 a0a a0l a0c b1a b1l b1c s.2.1 s.2.2) (fun s m => J s.1 s.2.1 s.2.2 m) (fun s => μ s.1 s.2.1 s.2.2) (g, t4, i5) rfl hJ ?_
  intro s m hJ
  have h := hs s.1 s.2.1 s.2.2 m hJ
  refine e18_1 ?_
  refine Eq.mp (congrArg (fun B => s18_1 C a0a a0l a0c b1a b1l b1c s.2.1 s.2.2 (andThenE B (kAt (cfgOf Tryz.prog pureF pureT C [(4, [0, 1, 4, 5])] 18) (bodyOf Tryz.prog 18) [1, 1, 0, 1, 0] (endK Tryz.prog 18 K))) m) ?_) h
  funext fr m'
  apply propext
  constructor
  · rintro ⟨g', t4', i5', h1, h2, h3⟩
    exact ⟨(g', t4', i5'), h1, h2, h3⟩
  · rintro ⟨⟨g', t4', i5'⟩, h1, h2, h3⟩
    exact ⟨g', t4', i5', h1, h2, h3⟩

def s19 (C : CallT)  (K : Value → Mem → Prop) (m : Mem) : Prop :=
  allocB m (Blk.ofList [(.slice none 0 0), (.int .i64 0), (.int .i64 0), (.bool false), (.int .i64 0), (.int .u16 0), (.int .u16 0), (.bool false), (.bool false), (.int .i64 0), (.int .i64 0)]) fun b_1 m_2 =>
  K (ptr b_1 0) m_2
theorem e19 (C : CallT)  (K : Value → Mem → Prop) (m : Mem) : evFn Tryz.prog pureF pureT C [] 19 [] K m = s19 C  K m := by kernel_rfl
theorem call19 {W0 : World}  {K : Value → Mem → Prop} {m : Mem} (h : s19 (callOK Tryz.prog W0)  K m) : callOK Tryz.prog W0 19 [] K m :=
  evFn_sound pureOk mixedP (fun w => Tryz.call19 _ w) ((e19 (callOK Tryz.prog W0)  K m).symm ▸ h)

def s20 (C : CallT)  (K : Value → Mem → Prop) (m : Mem) : Prop :=
  allocB m (Blk.ofList ((zeroCells Tryz.prog 109).getD [])) fun b_1 m_2 =>
  loopE [1, 2] (evCode (cfgOf Tryz.prog pureF pureT C [(3, [1, 2])] 20) (codeAt (bodyOf Tryz.prog 20) [1, 1, 0, 1, 0, 0])) (kAt (cfgOf Tryz.prog pureF pureT C [(3, [1, 2])] 20) (bodyOf Tryz.prog 20) [1, 1, 0, 1, 0] (endK Tryz.prog 20 K)) [(1, (ptr b_1 0)), (2, (.int .i64 0))] m_2
theorem e20 (C : CallT)  (K : Value → Mem → Prop) (m : Mem) : evFn Tryz.prog pureF pureT C [(3, [1, 2])] 20 [] K m = s20 C  K m := by kernel_rfl
theorem call20 {W0 : World}  {K : Value → Mem → Prop} {m : Mem} (h : s20 (callOK Tryz.prog W0)  K m) : callOK Tryz.prog W0 20 [] K m :=
  evFn_sound pureOk mixedP (fun w => Tryz.call20 _ w) ((e20 (callOK Tryz.prog W0)  K m).symm ▸ h)
def s20_1 (C : CallT) (t1 : Nat) (v2 : Int) (Kt : Exit → Fr → Mem → Prop) (m : Mem) : Prop :=
  ifB (decide (v2 ≤ 12))
  (ckI v2 13 fun j_3 =>
  st m t1 (28 + j_3) (.int .i64 (-1)) fun m_4 =>
  ckI v2 13 fun j_5 =>
  st m_4 t1 (41 + j_5) (.int .i64 (-1)) fun m_6 =>
  ckI v2 13 fun j_7 =>
  st m_6 t1 (54 + j_7) (.int .i64 (-1)) fun m_8 =>
  Kt .normal [(1, (ptr t1 0)), (2, (.int .i64 (IntKind.wrap .i64 (v2 + 1))))] m_8)
  (Kt (.exit 0) [(1, (ptr t1 0)), (2, (.int .i64 v2))] m)
theorem e20_1 {C : CallT} {t1 : Nat} {v2 : Int} {Kt : Exit → Fr → Mem → Prop} {m : Mem} (h : s20_1 C t1 v2 Kt m) : evCode (cfgOf Tryz.prog pureF pureT C [(3, [1, 2])] 20) (codeAt (bodyOf Tryz.prog 20) [1, 1, 0, 1, 0, 0]) (trimK [1, 2] Kt) [(1, (ptr t1 0)), (2, (.int .i64 v2))] m :=
  (show _ = _ by kernel_rfl : evCode (cfgOf Tryz.prog pureF pureT C [(3, [1, 2])] 20) (codeAt (bodyOf Tryz.prog 20) [1, 1, 0, 1, 0, 0]) (trimK [1, 2] Kt) [(1, (ptr t1 0)), (2, (.int .i64 v2))] m = s20_1 C t1 v2 Kt m).symm ▸ h
def s20_1x0 (C : CallT) (t1 : Nat) (v2 : Int) (K : Value → Mem → Prop) (m : Mem) : Prop :=
  K (ptr t1 0) m
theorem e20_1x0 {C : CallT} {kn : Fr → Mem → Prop} {t1 : Nat} {v2 : Int} {K : Value → Mem → Prop} {m : Mem} : (andThenE kn (kAt (cfgOf Tryz.prog pureF pureT C [(3, [1, 2])] 20) (bodyOf Tryz.prog 20) [1, 1, 0, 1, 0] (endK Tryz.prog 20 K)) (.exit 0) [(1, (ptr t1 0)), (2, (.int .i64 v2))] m) = s20_1x0 C t1 v2 K m := by kernel_rfl
def F20_1 (t1 : Nat) (v2 : Int) : Fr := [(1, (ptr t1 0)), (2, (.int .i64 v2))]
theorem loop20_1 {C : CallT} {γ : Type} {t1 : Nat} {K : Value → Mem → Prop} {m : Mem} (J : γ → Int → Mem → Prop) (μ : γ → Int → Nat) (g : γ) {v2 : Int} (hJ : J g v2 m)
    (hs : ∀ g v2 m, J g v2 m → s20_1 C t1 v2 (andThenE (fun fr m' => ∃ g' v2', fr = F20_1 t1 v2' ∧ J g' v2' m' ∧ μ g' v2' < μ g v2) (kAt (cfgOf Tryz.prog pureF pureT C [(3, [1, 2])] 20) (bodyOf Tryz.prog 20) [1, 1, 0, 1, 0] (endK Tryz.prog 20 K))) m) :
    loopE [1, 2] (evCode (cfgOf Tryz.prog pureF pureT C [(3, [1, 2])] 20) (codeAt (bodyOf Tryz.prog 20) [1, 1, 0, 1, 0, 0])) (kAt (cfgOf Tryz.prog pureF pureT C [(3, [1, 2])] 20) (bodyOf Tryz.prog 20) [1, 1, 0, 1, 0] (endK Tryz.prog 20 K)) [(1, (ptr t1 0)), (2, (.int .i64 v2))] m := by
  refine loop_rule (σ := γ × Int) (fun s => F20_1 t1 s.2) (fun s m => J s.1 s.2 m) (fun s => μ s.1 s.2) (g, v2) rfl hJ ?_
  intro s m hJ
  have h := hs s.1 s.2 m hJ
  refine e20_1 ?_
  refine Eq.mp (congrArg (fun B => s20_1 C t1 s.2 (andThenE B (kAt (cfgOf Tryz.prog pureF pureT C [(3, [1, 2])] 20) (bodyOf Tryz.prog 20) [1, 1, 0, 1, 0] (endK Tryz.prog 20 K))) m) ?_) h
  funext fr m'
  apply propext
  constructor
  · rintro ⟨g', v2', h1, h2, h3⟩
    exact ⟨(g', v2'), h1, h2, h3⟩
  · rintro ⟨⟨g', v2'⟩, h1, h2, h3⟩
    exact ⟨g', v2', h1, h2, h3⟩

def s21 (C : CallT) (t0 : Nat) (K : Value → Mem → Prop) (m : Mem) : Prop :=
  allocB m (Blk.ofList (List.take 0 ((zeroCells Tryz.prog 114).getD []) ++ [(ptr t0 0)] ++ List.drop 1 ((zeroCells Tryz.prog 114).getD []))) fun b_1 m_2 =>
  K (ptr b_1 0) m_2
theorem e21 (C : CallT) (t0 : Nat) (K : Value → Mem → Prop) (m : Mem) : evFn Tryz.prog pureF pureT C [] 21 [(ptr t0 0)] K m = s21 C t0 K m := by kernel_rfl
theorem call21 {W0 : World} {t0 : Nat} {K : Value → Mem → Prop} {m : Mem} (h : s21 (callOK Tryz.prog W0) t0 K m) : callOK Tryz.prog W0 21 [(ptr t0 0)] K m :=
  evFn_sound pureOk mixedP (fun w => Tryz.call21 _ w) ((e21 (callOK Tryz.prog W0) t0 K m).symm ▸ h)

def s22 (C : CallT) (t0 : Nat) (w1 : Nat) (K : Value → Mem → Prop) (m : Mem) : Prop :=
  allocB m (Blk.ofList [(ptr t0 0), (ptr w1 0), (.int .u16 0), (.int .u16 0), (.int .u16 0), (.int .i64 0), (.int .i64 0)]) fun b_1 m_2 =>
  K (ptr b_1 0) m_2
theorem e22 (C : CallT) (t0 : Nat) (w1 : Nat) (K : Value → Mem → Prop) (m : Mem) : evFn Tryz.prog pureF pureT C [] 22 [(ptr t0 0), (ptr w1 0)] K m = s22 C t0 w1 K m := by kernel_rfl
theorem call22 {W0 : World} {t0 : Nat} {w1 : Nat} {K : Value → Mem → Prop} {m : Mem} (h : s22 (callOK Tryz.prog W0) t0 w1 K m) : callOK Tryz.prog W0 22 [(ptr t0 0), (ptr w1 0)] K m :=
  evFn_sound pureOk mixedP (fun w => Tryz.call22 _ w) ((e22 (callOK Tryz.prog W0) t0 w1 K m).symm ▸ h)

def s23 (C : CallT) (p0 : Nat) (t1 : Nat) (w2 : Nat) (l3 : Nat) (K : Value → Mem → Prop) (m : Mem) : Prop :=
  allocB m (Blk.ofList [(ptr p0 0), (ptr t1 0), (ptr w2 0), (ptr l3 0), (.slice none 0 0), (.int .i64 0), (.int .i64 0), (.int .i64 0), (.int .i64 0), (.int .i64 0), (.int .i64 0), (.int .i64 0), (.int .i64 0), (.int .i64 0), (.int .i64 0), (.int .i64 0), (.int .i64 0), (.int .i64 0), (.int .i64 0), (.int .i64 0), (.int .i64 0), (.int .i64 0), (.int .i64 0), (.int .i64 0), (.int .i64 0), (.int .i64 0), (.int .i64 0), (.int .i64 0), (.int .i64 0), (.int .i64 0), (.int .i64 0), (.int .i64 1), (.int .u16 0), (.int .i64 0), (.int .i64 0), (.int .i64 0), (.int .i64 0)]) fun b_1 m_2 =>
  loopE [9, 10] (evCode (cfgOf Tryz.prog pureF pureT C [(3, [9, 10])] 23) (codeAt (bodyOf Tryz.prog 23) [1, 1, 0, 1, 0, 0])) (kAt (cfgOf Tryz.prog pureF pureT C [(3, [9, 10])] 23) (bodyOf Tryz.prog 23) [1, 1, 0, 1, 0] (endK Tryz.prog 23 K)) [(9, (ptr b_1 0)), (10, (.int .i64 0))] m_2
theorem e23 (C : CallT) (p0 : Nat) (t1 : Nat) (w2 : Nat) (l3 : Nat) (K : Value → Mem → Prop) (m : Mem) : evFn Tryz.prog pureF pureT C [(3, [9, 10])] 23 [(ptr p0 0), (ptr t1 0), (ptr w2 0), (ptr l3 0)] K m = s23 C p0 t1 w2 l3 K m := by kernel_rfl
theorem call23 {W0 : World} {p0 : Nat} {t1 : Nat} {w2 : Nat} {l3 : Nat} {K : Value → Mem → Prop} {m : Mem} (h : s23 (callOK Tryz.prog W0) p0 t1 w2 l3 K m) : callOK Tryz.prog W0 23 [(ptr p0 0), (ptr t1 0), (ptr w2 0), (ptr l3 0)] K m :=
  evFn_sound pureOk mixedP (fun w => Tryz.call23 _ w) ((e23 (callOK Tryz.prog W0) p0 t1 w2 l3 K m).symm ▸ h)
def s23_1 (C : CallT) (s9 : Nat) (v10 : Int) (Kt : Exit → Fr → Mem → Prop) (m : Mem) : Prop :=
  ifB (decide (v10 ≤ 12))
  (ckI v10 13 fun j_3 =>
  st m s9 (18 + j_3) (.int .i64 (-1)) fun m_4 =>
  Kt .normal [(9, (ptr s9 0)), (10, (.int .i64 (IntKind.wrap .i64 (v10 + 1))))] m_4)
  (Kt (.exit 0) [(9, (ptr s9 0)), (10, (.int .i64 v10))] m)
theorem e23_1 {C : CallT} {s9 : Nat} {v10 : Int} {Kt : Exit → Fr → Mem → Prop} {m : Mem} (h : s23_1 C s9 v10 Kt m) : evCode (cfgOf Tryz.prog pureF pureT C [(3, [9, 10])] 23) (codeAt (bodyOf Tryz.prog 23) [1, 1, 0, 1, 0, 0]) (trimK [9, 10] Kt) [(9, (ptr s9 0)), (10, (.int .i64 v10))] m :=
  (show _ = _ by kernel_rfl : evCode (cfgOf Tryz.prog pureF pureT C [(3, [9, 10])] 23) (codeAt (bodyOf Tryz.prog 23) [1, 1, 0, 1, 0, 0]) (trimK [9, 10] Kt) [(9, (ptr s9 0)), (10, (.int .i64 v10))] m = s23_1 C s9 v10 Kt m).symm ▸ h
def s23_1x0 (C : CallT) (s9 : Nat) (v10 : Int) (K : Value → Mem → Prop) (m : Mem) : Prop :=
  K (ptr s9 0) m
theorem e23_1x0 {C : CallT} {kn : Fr → Mem → Prop} {s9 : Nat} {v10 : Int} {K : Value → Mem → Prop} {m : Mem} : (andThenE kn (kAt (cfgOf Tryz.prog pureF pureT C [(3, [9, 10])] 23) (bodyOf Tryz.prog 23) [1, 1, 0, 1, 0] (endK Tryz.prog 23 K)) (.exit 0) [(9, (ptr s9 0)), (10, (.int .i64 v10))] m) = s23_1x0 C s9 v10 K m := by kernel_rfl
def F23_1 (s9 : Nat) (v10 : Int) : Fr := [(9, (ptr s9 0)), (10, (.int .i64 v10))]
theorem loop23_1 {C : CallT} {γ : Type} {s9 : Nat} {K : Value → Mem → Prop} {m : Mem} (J : γ → Int → Mem → Prop) (μ : γ → Int → Nat) (g : γ) {v10 : Int} (hJ : J g v10 m)
    (hs : ∀ g v10 m, J g v10 m → s23_1 C s9 v10 (andThenE (fun fr m' => ∃ g' v10', fr = F23_1 s9 v10' ∧ J g' v10' m' ∧ μ g' v10' < μ g v10) (kAt (cfgOf Tryz.prog pureF pureT C [(3, [9, 10])] 23) (bodyOf Tryz.prog 23) [1, 1, 0, 1, 0] (endK Tryz.prog 23 K))) m) :
    loopE [9, 10] (evCode (cfgOf Tryz.prog pureF pureT C [(3, [9, 10])] 23) (codeAt (bodyOf Tryz.prog 23) [1, 1, 0, 1, 0, 0])) (kAt (cfgOf Tryz.prog pureF pureT C [(3, [9, 10])] 23) (bodyOf Tryz.prog 23) [1, 1, 0, 1, 0] (endK Tryz.prog 23 K)) [(9, (ptr s9 0)), (10, (.int .i64 v10))] m := by
  refine loop_rule (σ := γ × Int) (fun s => F23_1 s9 s.2) (fun s m => J s.1 s.2 m) (fun s => μ s.1 s.2) (g, v10) rfl hJ ?_
  intro s m hJ
  have h := hs s.1 s.2 m hJ
  refine e23_1 ?_
  refine Eq.mp (congrArg (fun B => s23_1 C s9 s.2 (andThenE B (kAt (cfgOf Tryz.prog pureF pureT C [(3, [9, 10])] 23) (bodyOf Tryz.prog 23) [1, 1, 0, 1, 0] (endK Tryz.prog 23 K))) m) ?_) h
  funext fr m'
  apply propext
  constructor
  · rintro ⟨g', v10', h1, h2, h3⟩
    exact ⟨(g', v10'), h1, h2, h3⟩
  · rintro ⟨⟨g', v10'⟩, h1, h2, h3⟩
    exact ⟨g', v10', h1, h2, h3⟩

def s24 (C : CallT) (p0 : Nat) (K : Value → Mem → Prop) (m : Mem) : Prop :=
  allocB m (Blk.ofList (List.take 0 ((zeroCells Tryz.prog 88).getD []) ++ [(ptr p0 0)] ++ List.drop 1 ((zeroCells Tryz.prog 88).getD []))) fun b_1 m_2 =>
  K (ptr b_1 0) m_2
theorem e24 (C : CallT) (p0 : Nat) (K : Value → Mem → Prop) (m : Mem) : evFn Tryz.prog pureF pureT C [] 24 [(ptr p0 0)] K m = s24 C p0 K m := by kernel_rfl
theorem call24 {W0 : World} {p0 : Nat} {K : Value → Mem → Prop} {m : Mem} (h : s24 (callOK Tryz.prog W0) p0 K m) : callOK Tryz.prog W0 24 [(ptr p0 0)] K m :=
  evFn_sound pureOk mixedP (fun w => Tryz.call24 _ w) ((e24 (callOK Tryz.prog W0) p0 K m).symm ▸ h)

def s25 (C : CallT) (p0 : Nat) (text1 : ByteArray) (K : Value → Mem → Prop) (m : Mem) : Prop :=
  allocB m (zeroBlk Tryz.prog 73) fun b_1 m_2 =>
  ifB (decide (((ByteArray.size text1 : Nat) : Int) > 1048576))
  (stL m_2 b_1 0 [(.int .i64 1), (.int .i64 0), (.slice none 0 0)] fun m_3 =>
  ldInt .i64 m_3 b_1 0 fun x_4 =>
  ldInt .i64 m_3 b_1 1 fun x_5 =>
  ldSl m_3 b_1 2 fun l_6a l_6l l_6c =>
  K (.agg #[(.int .i64 x_4), (.int .i64 x_5), (.slice l_6a l_6l l_6c)]) m_3)
  (C 49 [(ptr p0 0)] (fun rm_7 m_7 =>
  rm_7 = (.tuple #[]) ∧
  loopE [0, 1, 4, 5] (evCode (cfgOf Tryz.prog pureF pureT C [(5, [0, 1, 4, 5])] 25) (codeAt (bodyOf Tryz.prog 25) [1, 1, 1, 0, 1, 0, 0])) (kAt (cfgOf Tryz.prog pureF pureT C [(5, [0, 1, 4, 5])] 25) (bodyOf Tryz.prog 25) [1, 1, 1, 0, 1, 0] (endK Tryz.prog 25 K)) [(0, (ptr p0 0)), (1, (.string text1)), (4, (ptr b_1 0)), (5, (.int .i64 0))] m_7) m_2)
theorem e25 (C : CallT) (p0 : Nat) (text1 : ByteArray) (K : Value → Mem → Prop) (m : Mem) : evFn Tryz.prog pureF pureT C [(5, [0, 1, 4, 5])] 25 [(ptr p0 0), (.string text1)] K m = s25 C p0 text1 K m := by kernel_rfl
theorem call25 {W0 : World} {p0 : Nat} {text1 : ByteArray} {K : Value → Mem → Prop} {m : Mem} (h : s25 (callOK Tryz.prog W0) p0 text1 K m) : callOK Tryz.prog W0 25 [(ptr p0 0), (.string text1)] K m :=
  evFn_sound pureOk mixedP (fun w => Tryz.call25 _ w) ((e25 (callOK Tryz.prog W0) p0 text1 K m).symm ▸ h)
def s25_1 (C : CallT) (p0 : Nat) (text1 : ByteArray) (t4 : Nat) (i5 : Int) (Kt : Exit → Fr → Mem → Prop) (m : Mem) : Prop :=
  ifB (decide (i5 < ((ByteArray.size text1 : Nat) : Int)))
  (ldInt .i64 m p0 9 fun x_8 =>
  ifB (x_8 == 0)
  (ckS text1 i5 fun ch_9 =>
  C 50 [(ptr p0 0), (.int .u8 ((UInt8.toNat ch_9 : Nat) : Int)), (.int .i64 i5)] (fun rm_10 m_10 =>
  rm_10 = (.tuple #[]) ∧
  Kt .normal [(0, (ptr p0 0)), (1, (.string text1)), (4, (ptr t4 0)), (5, (.int .i64 (IntKind.wrap .i64 (i5 + 1))))] m_10) m)
  (Kt (.exit 0) [(0, (ptr p0 0)), (1, (.string text1)), (4, (ptr t4 0)), (5, (.int .i64 i5))] m))
  (Kt (.exit 0) [(0, (ptr p0 0)), (1, (.string text1)), (4, (ptr t4 0)), (5, (.int .i64 i5))] m)
theorem e25_1 {C : CallT} {p0 : Nat} {text1 : ByteArray} {t4 : Nat} {i5 : Int} {Kt : Exit → Fr → Mem → Prop} {m : Mem} (h : s25_1 C p0 text1 t4 i5 Kt m) : evCode (cfgOf Tryz.prog pureF pureT C [(5, [0, 1, 4, 5])] 25) (codeAt (bodyOf Tryz.prog 25) [1, 1, 1, 0, 1, 0, 0]) (trimK [0, 1, 4, 5] Kt) [(0, (ptr p0 0)), (1, (.string text1)), (4, (ptr t4 0)), (5, (.int .i64 i5))] m :=
  (show _ = _ by kernel_rfl : evCode (cfgOf Tryz.prog pureF pureT C [(5, [0, 1, 4, 5])] 25) (codeAt (bodyOf Tryz.prog 25) [1, 1, 1, 0, 1, 0, 0]) (trimK [0, 1, 4, 5] Kt) [(0, (ptr p0 0)), (1, (.string text1)), (4, (ptr t4 0)), (5, (.int .i64 i5))] m = s25_1 C p0 text1 t4 i5 Kt m).symm ▸ h
def s25_1x0 (C : CallT) (p0 : Nat) (text1 : ByteArray) (t4 : Nat) (i5 : Int) (K : Value → Mem → Prop) (m : Mem) : Prop :=
  ldInt .i64 m p0 9 fun x_11 =>
  ifB (x_11 == 0)
  (C 50 [(ptr p0 0), (.int .u8 32), (.int .i64 ((ByteArray.size text1 : Nat) : Int))] (fun rm_12 m_12 =>
  rm_12 = (.tuple #[]) ∧
  ldInt .i64 m_12 p0 9 fun x_13 =>
  ifB (x_13 == 0)
  (ldBool m_12 p0 8 fun y_14 =>
  ifB y_14
  (C 51 [(ptr p0 0), (.int .i64 5), (.int .i64 ((ByteArray.size text1 : Nat) : Int))] (fun rm_15 m_15 =>
  rm_15 = (.tuple #[]) ∧
  ldInt .i64 m_15 p0 9 fun x_16 =>
  ldInt .i64 m_15 p0 10 fun x_17 =>
  allocB m_15 (zeroBlk Tryz.prog 73) fun b_18 m_19 =>
  stL m_19 b_18 0 [(.int .i64 x_16), (.int .i64 x_17), (.slice none 0 0)] fun m_20 =>
  ldInt .i64 m_20 p0 9 fun x_21 =>
  ifB (x_21 == 0)
  (ldSl m_20 p0 0 fun l_22a l_22l l_22c =>
  C 52 [(.slice l_22a l_22l l_22c)] (fun rm_24 m_24 =>
  ∃ x_23a x_23l x_23c, rm_24 = (.slice x_23a x_23l x_23c) ∧
  st m_24 b_18 2 (.slice x_23a x_23l x_23c) fun m_25 =>
  C 49 [(ptr p0 0)] (fun rm_26 m_26 =>
  rm_26 = (.tuple #[]) ∧
  ldInt .i64 m_26 b_18 0 fun x_27 =>
  ldInt .i64 m_26 b_18 1 fun x_28 =>
  ldSl m_26 b_18 2 fun l_29a l_29l l_29c =>
  stL m_26 t4 0 [(.int .i64 x_27), (.int .i64 x_28), (.slice l_29a l_29l l_29c)] fun m_30 =>
  ldInt .i64 m_30 t4 0 fun x_31 =>
  ldInt .i64 m_30 t4 1 fun x_32 =>
  ldSl m_30 t4 2 fun l_33a l_33l l_33c =>
  K (.agg #[(.int .i64 x_31), (.int .i64 x_32), (.slice l_33a l_33l l_33c)]) m_30) m_25) m_20)
  (C 49 [(ptr p0 0)] (fun rm_34 m_34 =>
  rm_34 = (.tuple #[]) ∧
  ldInt .i64 m_34 b_18 0 fun x_35 =>
  ldInt .i64 m_34 b_18 1 fun x_36 =>
  ldSl m_34 b_18 2 fun l_37a l_37l l_37c =>
  stL m_34 t4 0 [(.int .i64 x_35), (.int .i64 x_36), (.slice l_37a l_37l l_37c)] fun m_38 =>
  ldInt .i64 m_38 t4 0 fun x_39 =>
  ldInt .i64 m_38 t4 1 fun x_40 =>
  ldSl m_38 t4 2 fun l_41a l_41l l_41c =>
  K (.agg #[(.int .i64 x_39), (.int .i64 x_40), (.slice l_41a l_41l l_41c)]) m_38) m_20)) m_12)
  (ldInt .i64 m_12 p0 9 fun x_42 =>
  ldInt .i64 m_12 p0 10 fun x_43 =>
  allocB m_12 (zeroBlk Tryz.prog 73) fun b_44 m_45 =>
  stL m_45 b_44 0 [(.int .i64 x_42), (.int .i64 x_43), (.slice none 0 0)] fun m_46 =>
  ldInt .i64 m_46 p0 9 fun x_47 =>
  ifB (x_47 == 0)
  (ldSl m_46 p0 0 fun l_48a l_48l l_48c =>
  C 52 [(.slice l_48a l_48l l_48c)] (fun rm_50 m_50 =>
  ∃ x_49a x_49l x_49c, rm_50 = (.slice x_49a x_49l x_49c) ∧
  st m_50 b_44 2 (.slice x_49a x_49l x_49c) fun m_51 =>
  C 49 [(ptr p0 0)] (fun rm_52 m_52 =>
  rm_52 = (.tuple #[]) ∧
  ldInt .i64 m_52 b_44 0 fun x_53 =>
  ldInt .i64 m_52 b_44 1 fun x_54 =>
  ldSl m_52 b_44 2 fun l_55a l_55l l_55c =>
  stL m_52 t4 0 [(.int .i64 x_53), (.int .i64 x_54), (.slice l_55a l_55l l_55c)] fun m_56 =>
  ldInt .i64 m_56 t4 0 fun x_57 =>
  ldInt .i64 m_56 t4 1 fun x_58 =>
  ldSl m_56 t4 2 fun l_59a l_59l l_59c =>
  K (.agg #[(.int .i64 x_57), (.int .i64 x_58), (.slice l_59a l_59l l_59c)]) m_56) m_51) m_46)
  (C 49 [(ptr p0 0)] (fun rm_60 m_60 =>
  rm_60 = (.tuple #[]) ∧
  ldInt .i64 m_60 b_44 0 fun x_61 =>
  ldInt .i64 m_60 b_44 1 fun x_62 =>
  ldSl m_60 b_44 2 fun l_63a l_63l l_63c =>
  stL m_60 t4 0 [(.int .i64 x_61), (.int .i64 x_62), (.slice l_63a l_63l l_63c)] fun m_64 =>
  ldInt .i64 m_64 t4 0 fun x_65 =>
  ldInt .i64 m_64 t4 1 fun x_66 =>
  ldSl m_64 t4 2 fun l_67a l_67l l_67c =>
  K (.agg #[(.int .i64 x_65), (.int .i64 x_66), (.slice l_67a l_67l l_67c)]) m_64) m_46)))
  (ldInt .i64 m_12 p0 9 fun x_68 =>
  ldInt .i64 m_12 p0 10 fun x_69 =>
  allocB m_12 (zeroBlk Tryz.prog 73) fun b_70 m_71 =>
  stL m_71 b_70 0 [(.int .i64 x_68), (.int .i64 x_69), (.slice none 0 0)] fun m_72 =>
  ldInt .i64 m_72 p0 9 fun x_73 =>
  ifB (x_73 == 0)
  (ldSl m_72 p0 0 fun l_74a l_74l l_74c =>
  C 52 [(.slice l_74a l_74l l_74c)] (fun rm_76 m_76 =>
  ∃ x_75a x_75l x_75c, rm_76 = (.slice x_75a x_75l x_75c) ∧
  st m_76 b_70 2 (.slice x_75a x_75l x_75c) fun m_77 =>
  C 49 [(ptr p0 0)] (fun rm_78 m_78 =>
  rm_78 = (.tuple #[]) ∧
  ldInt .i64 m_78 b_70 0 fun x_79 =>
  ldInt .i64 m_78 b_70 1 fun x_80 =>
  ldSl m_78 b_70 2 fun l_81a l_81l l_81c =>
  stL m_78 t4 0 [(.int .i64 x_79), (.int .i64 x_80), (.slice l_81a l_81l l_81c)] fun m_82 =>
  ldInt .i64 m_82 t4 0 fun x_83 =>
  ldInt .i64 m_82 t4 1 fun x_84 =>
  ldSl m_82 t4 2 fun l_85a l_85l l_85c =>
  K (.agg #[(.int .i64 x_83), (.int .i64 x_84), (.slice l_85a l_85l l_85c)]) m_82) m_77) m_72)
  (C 49 [(ptr p0 0)] (fun rm_86 m_86 =>
  rm_86 = (.tuple #[]) ∧
  ldInt .i64 m_86 b_70 0 fun x_87 =>
  ldInt .i64 m_86 b_70 1 fun x_88 =>
  ldSl m_86 b_70 2 fun l_89a l_89l l_89c =>
  stL m_86 t4 0 [(.int .i64 x_87), (.int .i64 x_88), (.slice l_89a l_89l l_89c)] fun m_90 =>
  ldInt .i64 m_90 t4 0 fun x_91 =>
  ldInt .i64 m_90 t4 1 fun x_92 =>
  ldSl m_90 t4 2 fun l_93a l_93l l_93c =>
  K (.agg #[(.int .i64 x_91), (.int .i64 x_92), (.slice l_93a l_93l l_93c)]) m_90) m_72))) m)
  (ldInt .i64 m p0 9 fun x_94 =>
  ifB (x_94 == 0)
  (ldBool m p0 8 fun y_95 =>
  ifB y_95
  (C 51 [(ptr p0 0), (.int .i64 5), (.int .i64 ((ByteArray.size text1 : Nat) : Int))] (fun rm_96 m_96 =>
  rm_96 = (.tuple #[]) ∧
  ldInt .i64 m_96 p0 9 fun x_97 =>
  ldInt .i64 m_96 p0 10 fun x_98 =>
  allocB m_96 (zeroBlk Tryz.prog 73) fun b_99 m_100 =>
  stL m_100 b_99 0 [(.int .i64 x_97), (.int .i64 x_98), (.slice none 0 0)] fun m_101 =>
  ldInt .i64 m_101 p0 9 fun x_102 =>
  ifB (x_102 == 0)
  (ldSl m_101 p0 0 fun l_103a l_103l l_103c =>
  C 52 [(.slice l_103a l_103l l_103c)] (fun rm_105 m_105 =>
  ∃ x_104a x_104l x_104c, rm_105 = (.slice x_104a x_104l x_104c) ∧
  st m_105 b_99 2 (.slice x_104a x_104l x_104c) fun m_106 =>
  C 49 [(ptr p0 0)] (fun rm_107 m_107 =>
  rm_107 = (.tuple #[]) ∧
  ldInt .i64 m_107 b_99 0 fun x_108 =>
  ldInt .i64 m_107 b_99 1 fun x_109 =>
  ldSl m_107 b_99 2 fun l_110a l_110l l_110c =>
  stL m_107 t4 0 [(.int .i64 x_108), (.int .i64 x_109), (.slice l_110a l_110l l_110c)] fun m_111 =>
  ldInt .i64 m_111 t4 0 fun x_112 =>
  ldInt .i64 m_111 t4 1 fun x_113 =>
  ldSl m_111 t4 2 fun l_114a l_114l l_114c =>
  K (.agg #[(.int .i64 x_112), (.int .i64 x_113), (.slice l_114a l_114l l_114c)]) m_111) m_106) m_101)
  (C 49 [(ptr p0 0)] (fun rm_115 m_115 =>
  rm_115 = (.tuple #[]) ∧
  ldInt .i64 m_115 b_99 0 fun x_116 =>
  ldInt .i64 m_115 b_99 1 fun x_117 =>
  ldSl m_115 b_99 2 fun l_118a l_118l l_118c =>
  stL m_115 t4 0 [(.int .i64 x_116), (.int .i64 x_117), (.slice l_118a l_118l l_118c)] fun m_119 =>
  ldInt .i64 m_119 t4 0 fun x_120 =>
  ldInt .i64 m_119 t4 1 fun x_121 =>
  ldSl m_119 t4 2 fun l_122a l_122l l_122c =>
  K (.agg #[(.int .i64 x_120), (.int .i64 x_121), (.slice l_122a l_122l l_122c)]) m_119) m_101)) m)
  (ldInt .i64 m p0 9 fun x_123 =>
  ldInt .i64 m p0 10 fun x_124 =>
  allocB m (zeroBlk Tryz.prog 73) fun b_125 m_126 =>
  stL m_126 b_125 0 [(.int .i64 x_123), (.int .i64 x_124), (.slice none 0 0)] fun m_127 =>
  ldInt .i64 m_127 p0 9 fun x_128 =>
  ifB (x_128 == 0)
  (ldSl m_127 p0 0 fun l_129a l_129l l_129c =>
  C 52 [(.slice l_129a l_129l l_129c)] (fun rm_131 m_131 =>
  ∃ x_130a x_130l x_130c, rm_131 = (.slice x_130a x_130l x_130c) ∧
  st m_131 b_125 2 (.slice x_130a x_130l x_130c) fun m_132 =>
  C 49 [(ptr p0 0)] (fun rm_133 m_133 =>
  rm_133 = (.tuple #[]) ∧
  ldInt .i64 m_133 b_125 0 fun x_134 =>
  ldInt .i64 m_133 b_125 1 fun x_135 =>
  ldSl m_133 b_125 2 fun l_136a l_136l l_136c =>
  stL m_133 t4 0 [(.int .i64 x_134), (.int .i64 x_135), (.slice l_136a l_136l l_136c)] fun m_137 =>
  ldInt .i64 m_137 t4 0 fun x_138 =>
  ldInt .i64 m_137 t4 1 fun x_139 =>
  ldSl m_137 t4 2 fun l_140a l_140l l_140c =>
  K (.agg #[(.int .i64 x_138), (.int .i64 x_139), (.slice l_140a l_140l l_140c)]) m_137) m_132) m_127)
  (C 49 [(ptr p0 0)] (fun rm_141 m_141 =>
  rm_141 = (.tuple #[]) ∧
  ldInt .i64 m_141 b_125 0 fun x_142 =>
  ldInt .i64 m_141 b_125 1 fun x_143 =>
  ldSl m_141 b_125 2 fun l_144a l_144l l_144c =>
  stL m_141 t4 0 [(.int .i64 x_142), (.int .i64 x_143), (.slice l_144a l_144l l_144c)] fun m_145 =>
  ldInt .i64 m_145 t4 0 fun x_146 =>
  ldInt .i64 m_145 t4 1 fun x_147 =>
  ldSl m_145 t4 2 fun l_148a l_148l l_148c =>
  K (.agg #[(.int .i64 x_146), (.int .i64 x_147), (.slice l_148a l_148l l_148c)]) m_145) m_127)))
  (ldInt .i64 m p0 9 fun x_149 =>
  ldInt .i64 m p0 10 fun x_150 =>
  allocB m (zeroBlk Tryz.prog 73) fun b_151 m_152 =>
  stL m_152 b_151 0 [(.int .i64 x_149), (.int .i64 x_150), (.slice none 0 0)] fun m_153 =>
  ldInt .i64 m_153 p0 9 fun x_154 =>
  ifB (x_154 == 0)
  (ldSl m_153 p0 0 fun l_155a l_155l l_155c =>
  C 52 [(.slice l_155a l_155l l_155c)] (fun rm_157 m_157 =>
  ∃ x_156a x_156l x_156c, rm_157 = (.slice x_156a x_156l x_156c) ∧
  st m_157 b_151 2 (.slice x_156a x_156l x_156c) fun m_158 =>
  C 49 [(ptr p0 0)] (fun rm_159 m_159 =>
  rm_159 = (.tuple #[]) ∧
  ldInt .i64 m_159 b_151 0 fun x_160 =>
  ldInt .i64 m_159 b_151 1 fun x_161 =>
  ldSl m_159 b_151 2 fun l_162a l_162l l_162c =>
  stL m_159 t4 0 [(.int .i64 x_160), (.int .i64 x_161), (.slice l_162a l_162l l_162c)] fun m_163 =>
  ldInt .i64 m_163 t4 0 fun x_164 =>
  ldInt .i64 m_163 t4 1 fun x_165 =>
  ldSl m_163 t4 2 fun l_166a l_166l l_166c =>
  K (.agg #[(.int .i64 x_164), (.int .i64 x_165), (.slice l_166a l_166l l_166c)]) m_163) m_158) m_153)
  (C 49 [(ptr p0 0)] (fun rm_167 m_167 =>
  rm_167 = (.tuple #[]) ∧
  ldInt .i64 m_167 b_151 0 fun x_168 =>
  ldInt .i64 m_167 b_151 1 fun x_169 =>
  ldSl m_167 b_151 2 fun l_170a l_170l l_170c =>
  stL m_167 t4 0 [(.int .i64 x_168), (.int .i64 x_169), (.slice l_170a l_170l l_170c)] fun m_171 =>
  ldInt .i64 m_171 t4 0 fun x_172 =>
  ldInt .i64 m_171 t4 1 fun x_173 =>
  ldSl m_171 t4 2 fun l_174a l_174l l_174c =>
  K (.agg #[(.int .i64 x_172), (.int .i64 x_173), (.slice l_174a l_174l l_174c)]) m_171) m_153)))
theorem e25_1x0 {C : CallT} {kn : Fr → Mem → Prop} {p0 : Nat} {text1 : ByteArray} {t4 : Nat} {i5 : Int} {K : Value → Mem → Prop} {m : Mem} : (andThenE kn (kAt (cfgOf Tryz.prog pureF pureT C [(5, [0, 1, 4, 5])] 25) (bodyOf Tryz.prog 25) [1, 1, 1, 0, 1, 0] (endK Tryz.prog 25 K)) (.exit 0) [(0, (ptr p0 0)), (1, (.string text1)), (4, (ptr t4 0)), (5, (.int .i64 i5))] m) = s25_1x0 C p0 text1 t4 i5 K m := by kernel_rfl
def F25_1 (p0 : Nat) (text1 : ByteArray) (t4 : Nat) (i5 : Int) : Fr := [(0, (ptr p0 0)), (1, (.string text1)), (4, (ptr t4 0)), (5, (.int .i64 i5))]
theorem loop25_1 {C : CallT} {γ : Type} {p0 : Nat} {text1 : ByteArray} {t4 : Nat} {K : Value → Mem → Prop} {m : Mem} (J : γ → Int → Mem → Prop) (μ : γ → Int → Nat) (g : γ) {i5 : Int} (hJ : J g i5 m)
    (hs : ∀ g i5 m, J g i5 m → s25_1 C p0 text1 t4 i5 (andThenE (fun fr m' => ∃ g' i5', fr = F25_1 p0 text1 t4 i5' ∧ J g' i5' m' ∧ μ g' i5' < μ g i5) (kAt (cfgOf Tryz.prog pureF pureT C [(5, [0, 1, 4, 5])] 25) (bodyOf Tryz.prog 25) [1, 1, 1, 0, 1, 0] (endK Tryz.prog 25 K))) m) :
    loopE [0, 1, 4, 5] (evCode (cfgOf Tryz.prog pureF pureT C [(5, [0, 1, 4, 5])] 25) (codeAt (bodyOf Tryz.prog 25) [1, 1, 1, 0, 1, 0, 0])) (kAt (cfgOf Tryz.prog pureF pureT C [(5, [0, 1, 4, 5])] 25) (bodyOf Tryz.prog 25) [1, 1, 1, 0, 1, 0] (endK Tryz.prog 25 K)) [(0, (ptr p0 0)), (1, (.string text1)), (4, (ptr t4 0)), (5, (.int .i64 i5))] m := by
  refine loop_rule (σ := γ × Int) (fun s => F25_1 p0 text1 t4 s.2) (fun s m => J s.1 s.2 m) (fun s => μ s.1 s.2) (g, i5) rfl hJ ?_
  intro s m hJ
  have h := hs s.1 s.2 m hJ
  refine e25_1 ?_
  refine Eq.mp (congrArg (fun B => s25_1 C p0 text1 t4 s.2 (andThenE B (kAt (cfgOf Tryz.prog pureF pureT C [(5, [0, 1, 4, 5])] 25) (bodyOf Tryz.prog 25) [1, 1, 1, 0, 1, 0] (endK Tryz.prog 25 K))) m) ?_) h
  funext fr m'
  apply propext
  constructor
  · rintro ⟨g', i5', h1, h2, h3⟩
    exact ⟨(g', i5'), h1, h2, h3⟩
  · rintro ⟨⟨g', i5'⟩, h1, h2, h3⟩
    exact ⟨g', i5', h1, h2, h3⟩

def s26 (C : CallT) (flat0a : Option Addr) (flat0l flat0c : Nat) (K : Value → Mem → Prop) (m : Mem) : Prop :=
  loopE [0, 2, 3, 4] (evCode (cfgOf Tryz.prog pureF pureT C [(3, [0, 2, 3, 4])] 26) (codeAt (bodyOf Tryz.prog 26) [1, 1, 0, 1, 0, 0])) (kAt (cfgOf Tryz.prog pureF pureT C [(3, [0, 2, 3, 4])] 26) (bodyOf Tryz.prog 26) [1, 1, 0, 1, 0] (endK Tryz.prog 26 K)) [(0, (.slice flat0a flat0l flat0c)), (2, (.int .i64 0)), (3, (.int .i64 0)), (4, (.int .i64 0))] m
theorem e26 (C : CallT) (flat0a : Option Addr) (flat0l flat0c : Nat) (K : Value → Mem → Prop) (m : Mem) : evFn Tryz.prog pureF pureT C [(3, [0, 2, 3, 4])] 26 [(.slice flat0a flat0l flat0c)] K m = s26 C flat0a flat0l flat0c K m := by kernel_rfl
theorem call26 {W0 : World} {flat0a : Option Addr} {flat0l flat0c : Nat} {K : Value → Mem → Prop} {m : Mem} (h : s26 (callOK Tryz.prog W0) flat0a flat0l flat0c K m) : callOK Tryz.prog W0 26 [(.slice flat0a flat0l flat0c)] K m :=
  evFn_sound pureOk mixedP (fun w => Tryz.call26 _ w) ((e26 (callOK Tryz.prog W0) flat0a flat0l flat0c K m).symm ▸ h)
def s26_1 (C : CallT) (flat0a : Option Addr) (flat0l flat0c : Nat) (t2 : Int) (rows3 : Int) (i4 : Int) (Kt : Exit → Fr → Mem → Prop) (m : Mem) : Prop :=
  ifB (decide (i4 < ((flat0l : Nat) : Int)))
  (ckP flat0a fun b_1 o_1 =>
  ckI i4 flat0l fun j_2 =>
  ldInt .i64 m b_1 (o_1 + j_2) fun x_3 =>
  ifB (x_3 == 13)
  (Kt .ret [(0, (.slice flat0a flat0l flat0c)), (2, (.int .i64 16)), (3, (.int .i64 rows3)), (4, (.int .i64 i4))] m)
  (ckP flat0a fun b_4 o_4 =>
  ckI i4 flat0l fun j_5 =>
  ldInt .i64 m b_4 (o_4 + j_5) fun x_6 =>
  ifB (x_6 == 0)
  (Kt .normal [(0, (.slice flat0a flat0l flat0c)), (2, (.int .i64 t2)), (3, (.int .i64 (IntKind.wrap .i64 (rows3 + 1)))), (4, (.int .i64 (IntKind.wrap .i64 (i4 + 1))))] m)
  (Kt .normal [(0, (.slice flat0a flat0l flat0c)), (2, (.int .i64 t2)), (3, (.int .i64 rows3)), (4, (.int .i64 (IntKind.wrap .i64 (i4 + 1))))] m)))
  (Kt (.exit 0) [(0, (.slice flat0a flat0l flat0c)), (2, (.int .i64 t2)), (3, (.int .i64 rows3)), (4, (.int .i64 i4))] m)
theorem e26_1 {C : CallT} {flat0a : Option Addr} {flat0l flat0c : Nat} {t2 : Int} {rows3 : Int} {i4 : Int} {Kt : Exit → Fr → Mem → Prop} {m : Mem} (h : s26_1 C flat0a flat0l flat0c t2 rows3 i4 Kt m) : evCode (cfgOf Tryz.prog pureF pureT C [(3, [0, 2, 3, 4])] 26) (codeAt (bodyOf Tryz.prog 26) [1, 1, 0, 1, 0, 0]) (trimK [0, 2, 3, 4] Kt) [(0, (.slice flat0a flat0l flat0c)), (2, (.int .i64 t2)), (3, (.int .i64 rows3)), (4, (.int .i64 i4))] m :=
  (show _ = _ by kernel_rfl : evCode (cfgOf Tryz.prog pureF pureT C [(3, [0, 2, 3, 4])] 26) (codeAt (bodyOf Tryz.prog 26) [1, 1, 0, 1, 0, 0]) (trimK [0, 2, 3, 4] Kt) [(0, (.slice flat0a flat0l flat0c)), (2, (.int .i64 t2)), (3, (.int .i64 rows3)), (4, (.int .i64 i4))] m = s26_1 C flat0a flat0l flat0c t2 rows3 i4 Kt m).symm ▸ h
def s26_1r (C : CallT) (flat0a : Option Addr) (flat0l flat0c : Nat) (t2 : Int) (rows3 : Int) (i4 : Int) (K : Value → Mem → Prop) (m : Mem) : Prop :=
  K (.int .i64 t2) m
theorem e26_1r {C : CallT} {kn : Fr → Mem → Prop} {flat0a : Option Addr} {flat0l flat0c : Nat} {t2 : Int} {rows3 : Int} {i4 : Int} {K : Value → Mem → Prop} {m : Mem} : (andThenE kn (kAt (cfgOf Tryz.prog pureF pureT C [(3, [0, 2, 3, 4])] 26) (bodyOf Tryz.prog 26) [1, 1, 0, 1, 0] (endK Tryz.prog 26 K)) .ret [(0, (.slice flat0a flat0l flat0c)), (2, (.int .i64 t2)), (3, (.int .i64 rows3)), (4, (.int .i64 i4))] m) = s26_1r C flat0a flat0l flat0c t2 rows3 i4 K m := by kernel_rfl
def s26_1x0 (C : CallT) (flat0a : Option Addr) (flat0l flat0c : Nat) (t2 : Int) (rows3 : Int) (i4 : Int) (K : Value → Mem → Prop) (m : Mem) : Prop :=
  ifB (decide (rows3 > 40))
  (K (.int .i64 17) m)
  (K (.int .i64 0) m)
theorem e26_1x0 {C : CallT} {kn : Fr → Mem → Prop} {flat0a : Option Addr} {flat0l flat0c : Nat} {t2 : Int} {rows3 : Int} {i4 : Int} {K : Value → Mem → Prop} {m : Mem} : (andThenE kn (kAt (cfgOf Tryz.prog pureF pureT C [(3, [0, 2, 3, 4])] 26) (bodyOf Tryz.prog 26) [1, 1, 0, 1, 0] (endK Tryz.prog 26 K)) (.exit 0) [(0, (.slice flat0a flat0l flat0c)), (2, (.int .i64 t2)), (3, (.int .i64 rows3)), (4, (.int .i64 i4))] m) = s26_1x0 C flat0a flat0l flat0c t2 rows3 i4 K m := by kernel_rfl
def F26_1 (flat0a : Option Addr) (flat0l flat0c : Nat) (t2 : Int) (rows3 : Int) (i4 : Int) : Fr := [(0, (.slice flat0a flat0l flat0c)), (2, (.int .i64 t2)), (3, (.int .i64 rows3)), (4, (.int .i64 i4))]
theorem loop26_1 {C : CallT} {γ : Type} {flat0a : Option Addr} {flat0l flat0c : Nat} {K : Value → Mem → Prop} {m : Mem} (J : γ → Int → Int → Int → Mem → Prop) (μ : γ → Int → Int → Int → Nat) (g : γ) {t2 : Int} {rows3 : Int} {i4 : Int} (hJ : J g t2 rows3 i4 m)
    (hs : ∀ g t2 rows3 i4 m, J g t2 rows3 i4 m → s26_1 C flat0a flat0l flat0c t2 rows3 i4 (andThenE (fun fr m' => ∃ g' t2' rows3' i4', fr = F26_1 flat0a flat0l flat0c t2' rows3' i4' ∧ J g' t2' rows3' i4' m' ∧ μ g' t2' rows3' i4' < μ g t2 rows3 i4) (kAt (cfgOf Tryz.prog pureF pureT C [(3, [0, 2, 3, 4])] 26) (bodyOf Tryz.prog 26) [1, 1, 0, 1, 0] (endK Tryz.prog 26 K))) m) :
    loopE [0, 2, 3, 4] (evCode (cfgOf Tryz.prog pureF pureT C [(3, [0, 2, 3, 4])] 26) (codeAt (bodyOf Tryz.prog 26) [1, 1, 0, 1, 0, 0])) (kAt (cfgOf Tryz.prog pureF pureT C [(3, [0, 2, 3, 4])] 26) (bodyOf Tryz.prog 26) [1, 1, 0, 1, 0] (endK Tryz.prog 26 K)) [(0, (.slice flat0a flat0l flat0c)), (2, (.int .i64 t2)), (3, (.int .i64 rows3)), (4, (.int .i64 i4))] m := by
  refine loop_rule (σ := γ × Int × Int × Int) (fun s => F26_1 flat0a flat0l flat0c s.2.1 s.2.2.1 s.2.2.2) (fun s m => J s.1 s.2.1 s.2.2.1 s.2.2.2 m) (fun s => μ s.1 s.2.1 s.2.2.1 s.2.2.2) (g, t2, rows3, i4) rfl hJ ?_
  intro s m hJ
  have h := hs s.1 s.2.1 s.2.2.1 s.2.2.2 m hJ
  refine e26_1 ?_
  refine Eq.mp (congrArg (fun B => s26_1 C flat0a flat0l flat0c s.2.1 s.2.2.1 s.2.2.2 (andThenE B (kAt (cfgOf Tryz.prog pureF pureT C [(3, [0, 2, 3, 4])] 26) (bodyOf Tryz.prog 26) [1, 1, 0, 1, 0] (endK Tryz.prog 26 K))) m) ?_) h
  funext fr m'
  apply propext
  constructor
  · rintro ⟨g', t2', rows3', i4', h1, h2, h3⟩
    exact ⟨(g', t2', rows3', i4'), h1, h2, h3⟩
  · rintro ⟨⟨g', t2', rows3', i4'⟩, h1, h2, h3⟩
    exact ⟨g', t2', rows3', i4', h1, h2, h3⟩

def s27 (C : CallT) (s0 : Nat) (K : Value → Mem → Prop) (m : Mem) : Prop :=
  ldPtr m s0 1 fun p_1 =>
  C 53 [(.pointer p_1)] (fun rm_2 m_2 =>
  rm_2 = (.tuple #[]) ∧
  ldPtr m_2 s0 2 fun p_3 =>
  C 54 [(.pointer p_3)] (fun rm_4 m_4 =>
  rm_4 = (.tuple #[]) ∧
  loopE [0, 2] (evCode (cfgOf Tryz.prog pureF pureT C [(3, [0, 2])] 27) (codeAt (bodyOf Tryz.prog 27) [1, 1, 0, 1, 0, 0])) (kAt (cfgOf Tryz.prog pureF pureT C [(3, [0, 2])] 27) (bodyOf Tryz.prog 27) [1, 1, 0, 1, 0] (endK Tryz.prog 27 K)) [(0, (ptr s0 0)), (2, (.int .i64 0))] m_4) m_2) m
theorem e27 (C : CallT) (s0 : Nat) (K : Value → Mem → Prop) (m : Mem) : evFn Tryz.prog pureF pureT C [(3, [0, 2])] 27 [(ptr s0 0)] K m = s27 C s0 K m := by kernel_rfl
theorem call27 {W0 : World} {s0 : Nat} {K : Value → Mem → Prop} {m : Mem} (h : s27 (callOK Tryz.prog W0) s0 K m) : callOK Tryz.prog W0 27 [(ptr s0 0)] K m :=
  evFn_sound pureOk mixedP (fun w => Tryz.call27 _ w) ((e27 (callOK Tryz.prog W0) s0 K m).symm ▸ h)
def s27_1 (C : CallT) (s0 : Nat) (v2 : Int) (Kt : Exit → Fr → Mem → Prop) (m : Mem) : Prop :=
  ifB (decide (v2 ≤ 12))
  (ckI v2 13 fun j_5 =>
  st m s0 (5 + j_5) (.int .i64 0) fun m_6 =>
  ckI v2 13 fun j_7 =>
  st m_6 s0 (18 + j_7) (.int .i64 (-1)) fun m_8 =>
  Kt .normal [(0, (ptr s0 0)), (2, (.int .i64 (IntKind.wrap .i64 (v2 + 1))))] m_8)
  (Kt (.exit 0) [(0, (ptr s0 0)), (2, (.int .i64 v2))] m)
theorem e27_1 {C : CallT} {s0 : Nat} {v2 : Int} {Kt : Exit → Fr → Mem → Prop} {m : Mem} (h : s27_1 C s0 v2 Kt m) : evCode (cfgOf Tryz.prog pureF pureT C [(3, [0, 2])] 27) (codeAt (bodyOf Tryz.prog 27) [1, 1, 0, 1, 0, 0]) (trimK [0, 2] Kt) [(0, (ptr s0 0)), (2, (.int .i64 v2))] m :=
  (show _ = _ by kernel_rfl : evCode (cfgOf Tryz.prog pureF pureT C [(3, [0, 2])] 27) (codeAt (bodyOf Tryz.prog 27) [1, 1, 0, 1, 0, 0]) (trimK [0, 2] Kt) [(0, (ptr s0 0)), (2, (.int .i64 v2))] m = s27_1 C s0 v2 Kt m).symm ▸ h
def s27_1x0 (C : CallT) (s0 : Nat) (v2 : Int) (K : Value → Mem → Prop) (m : Mem) : Prop :=
  st m s0 31 (.int .i64 1) fun m_9 =>
  st m_9 s0 32 (.int .u16 0) fun m_10 =>
  st m_10 s0 33 (.int .i64 0) fun m_11 =>
  st m_11 s0 34 (.int .i64 0) fun m_12 =>
  st m_12 s0 35 (.int .i64 0) fun m_13 =>
  st m_13 s0 36 (.int .i64 0) fun m_14 =>
  K (.tuple #[]) m_14
theorem e27_1x0 {C : CallT} {kn : Fr → Mem → Prop} {s0 : Nat} {v2 : Int} {K : Value → Mem → Prop} {m : Mem} : (andThenE kn (kAt (cfgOf Tryz.prog pureF pureT C [(3, [0, 2])] 27) (bodyOf Tryz.prog 27) [1, 1, 0, 1, 0] (endK Tryz.prog 27 K)) (.exit 0) [(0, (ptr s0 0)), (2, (.int .i64 v2))] m) = s27_1x0 C s0 v2 K m := by kernel_rfl
def F27_1 (s0 : Nat) (v2 : Int) : Fr := [(0, (ptr s0 0)), (2, (.int .i64 v2))]
theorem loop27_1 {C : CallT} {γ : Type} {s0 : Nat} {K : Value → Mem → Prop} {m : Mem} (J : γ → Int → Mem → Prop) (μ : γ → Int → Nat) (g : γ) {v2 : Int} (hJ : J g v2 m)
    (hs : ∀ g v2 m, J g v2 m → s27_1 C s0 v2 (andThenE (fun fr m' => ∃ g' v2', fr = F27_1 s0 v2' ∧ J g' v2' m' ∧ μ g' v2' < μ g v2) (kAt (cfgOf Tryz.prog pureF pureT C [(3, [0, 2])] 27) (bodyOf Tryz.prog 27) [1, 1, 0, 1, 0] (endK Tryz.prog 27 K))) m) :
    loopE [0, 2] (evCode (cfgOf Tryz.prog pureF pureT C [(3, [0, 2])] 27) (codeAt (bodyOf Tryz.prog 27) [1, 1, 0, 1, 0, 0])) (kAt (cfgOf Tryz.prog pureF pureT C [(3, [0, 2])] 27) (bodyOf Tryz.prog 27) [1, 1, 0, 1, 0] (endK Tryz.prog 27 K)) [(0, (ptr s0 0)), (2, (.int .i64 v2))] m := by
  refine loop_rule (σ := γ × Int) (fun s => F27_1 s0 s.2) (fun s m => J s.1 s.2 m) (fun s => μ s.1 s.2) (g, v2) rfl hJ ?_
  intro s m hJ
  have h := hs s.1 s.2 m hJ
  refine e27_1 ?_
  refine Eq.mp (congrArg (fun B => s27_1 C s0 s.2 (andThenE B (kAt (cfgOf Tryz.prog pureF pureT C [(3, [0, 2])] 27) (bodyOf Tryz.prog 27) [1, 1, 0, 1, 0] (endK Tryz.prog 27 K))) m) ?_) h
  funext fr m'
  apply propext
  constructor
  · rintro ⟨g', v2', h1, h2, h3⟩
    exact ⟨(g', v2'), h1, h2, h3⟩
  · rintro ⟨⟨g', v2'⟩, h1, h2, h3⟩
    exact ⟨g', v2', h1, h2, h3⟩

def s28 (C : CallT) (s0 : Nat) (flat1a : Option Addr) (flat1l flat1c : Nat) (K : Value → Mem → Prop) (m : Mem) : Prop :=
  loopE [0, 1, 4, 5] (evCode (cfgOf Tryz.prog pureF pureT C [(2, [0, 1, 4, 5])] 28) (codeAt (bodyOf Tryz.prog 28) [1, 1, 0, 0])) (kAt (cfgOf Tryz.prog pureF pureT C [(2, [0, 1, 4, 5])] 28) (bodyOf Tryz.prog 28) [1, 1, 0] (endK Tryz.prog 28 K)) [(0, (ptr s0 0)), (1, (.slice flat1a flat1l flat1c)), (4, (.int .i64 0)), (5, (.int .i64 0))] m
theorem e28 (C : CallT) (s0 : Nat) (flat1a : Option Addr) (flat1l flat1c : Nat) (K : Value → Mem → Prop) (m : Mem) : evFn Tryz.prog pureF pureT C [(2, [0, 1, 4, 5])] 28 [(ptr s0 0), (.slice flat1a flat1l flat1c)] K m = s28 C s0 flat1a flat1l flat1c K m := by kernel_rfl
theorem call28 {W0 : World} {s0 : Nat} {flat1a : Option Addr} {flat1l flat1c : Nat} {K : Value → Mem → Prop} {m : Mem} (h : s28 (callOK Tryz.prog W0) s0 flat1a flat1l flat1c K m) : callOK Tryz.prog W0 28 [(ptr s0 0), (.slice flat1a flat1l flat1c)] K m :=
  evFn_sound pureOk mixedP (fun w => Tryz.call28 _ w) ((e28 (callOK Tryz.prog W0) s0 flat1a flat1l flat1c K m).symm ▸ h)
def s28_1 (C : CallT) (s0 : Nat) (flat1a : Option Addr) (flat1l flat1c : Nat) (lo4 : Int) (i5 : Int) (Kt : Exit → Fr → Mem → Prop) (m : Mem) : Prop :=
  ifB (decide (i5 < ((flat1l : Nat) : Int)))
  (ckP flat1a fun b_1 o_1 =>
  ckI i5 flat1l fun j_2 =>
  ldInt .i64 m b_1 (o_1 + j_2) fun x_3 =>
  ifB (x_3 == 0)
  (ckLe i5 flat1c fun n_4 =>
  ckLe lo4 n_4 fun n_5 =>
  C 52 [(.slice (slA flat1a n_5 flat1c 1) (n_4 - n_5) (flat1c - n_5))] (fun rm_7 m_7 =>
  ∃ x_6a x_6l x_6c, rm_7 = (.slice x_6a x_6l x_6c) ∧
  ldPtr m_7 s0 2 fun p_8 =>
  C 55 [(.pointer p_8), (.slice x_6a x_6l x_6c), (.bool false)] (fun rm_11 m_11 =>
  ∃ x_9 x_10, rm_11 = (.tuple #[(.int .i64 x_9), (.int .i64 x_10)]) ∧
  Kt .normal [(0, (ptr s0 0)), (1, (.slice flat1a flat1l flat1c)), (4, (.int .i64 (IntKind.wrap .i64 (i5 + 1)))), (5, (.int .i64 (IntKind.wrap .i64 (i5 + 1))))] m_11) m_7) m)
  (Kt .normal [(0, (ptr s0 0)), (1, (.slice flat1a flat1l flat1c)), (4, (.int .i64 lo4)), (5, (.int .i64 (IntKind.wrap .i64 (i5 + 1))))] m))
  (Kt (.exit 0) [(0, (ptr s0 0)), (1, (.slice flat1a flat1l flat1c)), (4, (.int .i64 lo4)), (5, (.int .i64 i5))] m)
theorem e28_1 {C : CallT} {s0 : Nat} {flat1a : Option Addr} {flat1l flat1c : Nat} {lo4 : Int} {i5 : Int} {Kt : Exit → Fr → Mem → Prop} {m : Mem} (h : s28_1 C s0 flat1a flat1l flat1c lo4 i5 Kt m) : evCode (cfgOf Tryz.prog pureF pureT C [(2, [0, 1, 4, 5])] 28) (codeAt (bodyOf Tryz.prog 28) [1, 1, 0, 0]) (trimK [0, 1, 4, 5] Kt) [(0, (ptr s0 0)), (1, (.slice flat1a flat1l flat1c)), (4, (.int .i64 lo4)), (5, (.int .i64 i5))] m :=
  (show _ = _ by kernel_rfl : evCode (cfgOf Tryz.prog pureF pureT C [(2, [0, 1, 4, 5])] 28) (codeAt (bodyOf Tryz.prog 28) [1, 1, 0, 0]) (trimK [0, 1, 4, 5] Kt) [(0, (ptr s0 0)), (1, (.slice flat1a flat1l flat1c)), (4, (.int .i64 lo4)), (5, (.int .i64 i5))] m = s28_1 C s0 flat1a flat1l flat1c lo4 i5 Kt m).symm ▸ h
def s28_1x0 (C : CallT) (s0 : Nat) (flat1a : Option Addr) (flat1l flat1c : Nat) (lo4 : Int) (i5 : Int) (K : Value → Mem → Prop) (m : Mem) : Prop :=
  K (.tuple #[]) m
theorem e28_1x0 {C : CallT} {kn : Fr → Mem → Prop} {s0 : Nat} {flat1a : Option Addr} {flat1l flat1c : Nat} {lo4 : Int} {i5 : Int} {K : Value → Mem → Prop} {m : Mem} : (andThenE kn (kAt (cfgOf Tryz.prog pureF pureT C [(2, [0, 1, 4, 5])] 28) (bodyOf Tryz.prog 28) [1, 1, 0] (endK Tryz.prog 28 K)) (.exit 0) [(0, (ptr s0 0)), (1, (.slice flat1a flat1l flat1c)), (4, (.int .i64 lo4)), (5, (.int .i64 i5))] m) = s28_1x0 C s0 flat1a flat1l flat1c lo4 i5 K m := by kernel_rfl
def F28_1 (s0 : Nat) (flat1a : Option Addr) (flat1l flat1c : Nat) (lo4 : Int) (i5 : Int) : Fr := [(0, (ptr s0 0)), (1, (.slice flat1a flat1l flat1c)), (4, (.int .i64 lo4)), (5, (.int .i64 i5))]
theorem loop28_1 {C : CallT} {γ : Type} {s0 : Nat} {flat1a : Option Addr} {flat1l flat1c : Nat} {K : Value → Mem → Prop} {m : Mem} (J : γ → Int → Int → Mem → Prop) (μ : γ → Int → Int → Nat) (g : γ) {lo4 : Int} {i5 : Int} (hJ : J g lo4 i5 m)
    (hs : ∀ g lo4 i5 m, J g lo4 i5 m → s28_1 C s0 flat1a flat1l flat1c lo4 i5 (andThenE (fun fr m' => ∃ g' lo4' i5', fr = F28_1 s0 flat1a flat1l flat1c lo4' i5' ∧ J g' lo4' i5' m' ∧ μ g' lo4' i5' < μ g lo4 i5) (kAt (cfgOf Tryz.prog pureF pureT C [(2, [0, 1, 4, 5])] 28) (bodyOf Tryz.prog 28) [1, 1, 0] (endK Tryz.prog 28 K))) m) :
    loopE [0, 1, 4, 5] (evCode (cfgOf Tryz.prog pureF pureT C [(2, [0, 1, 4, 5])] 28) (codeAt (bodyOf Tryz.prog 28) [1, 1, 0, 0])) (kAt (cfgOf Tryz.prog pureF pureT C [(2, [0, 1, 4, 5])] 28) (bodyOf Tryz.prog 28) [1, 1, 0] (endK Tryz.prog 28 K)) [(0, (ptr s0 0)), (1, (.slice flat1a flat1l flat1c)), (4, (.int .i64 lo4)), (5, (.int .i64 i5))] m := by
  refine loop_rule (σ := γ × Int × Int) (fun s => F28_1 s0 flat1a flat1l flat1c s.2.1 s.2.2) (fun s m => J s.1 s.2.1 s.2.2 m) (fun s => μ s.1 s.2.1 s.2.2) (g, lo4, i5) rfl hJ ?_
  intro s m hJ
  have h := hs s.1 s.2.1 s.2.2 m hJ
  refine e28_1 ?_
  refine Eq.mp (congrArg (fun B => s28_1 C s0 flat1a flat1l flat1c s.2.1 s.2.2 (andThenE B (kAt (cfgOf Tryz.prog pureF pureT C [(2, [0, 1, 4, 5])] 28) (bodyOf Tryz.prog 28) [1, 1, 0] (endK Tryz.prog 28 K))) m) ?_) h
  funext fr m'
  apply propext
  constructor
  · rintro ⟨g', lo4', i5', h1, h2, h3⟩
    exact ⟨(g', lo4', i5'), h1, h2, h3⟩
  · rintro ⟨⟨g', lo4', i5'⟩, h1, h2, h3⟩
    exact ⟨g', lo4', i5', h1, h2, h3⟩

def s29 (C : CallT) (w0 : Nat) (K : Value → Mem → Prop) (m : Mem) : Prop :=
  st m w0 706 (.int .i64 0) fun m_1 =>
  C 56 [(ptr w0 0)] (fun rm_3 m_3 =>
  ∃ x_2, rm_3 = (.int .i64 x_2) ∧
  ifB (decide (x_2 ≥ 0))
  (K (.int .i64 x_2) m_3)
  (C 57 [(ptr w0 0)] (fun rm_5 m_5 =>
  ∃ x_4, rm_5 = (.int .i64 x_4) ∧
  K (.int .i64 x_4) m_5) m_3)) m_1
theorem e29 (C : CallT) (w0 : Nat) (K : Value → Mem → Prop) (m : Mem) : evFn Tryz.prog pureF pureT C [] 29 [(ptr w0 0)] K m = s29 C w0 K m := by kernel_rfl
theorem call29 {W0 : World} {w0 : Nat} {K : Value → Mem → Prop} {m : Mem} (h : s29 (callOK Tryz.prog W0) w0 K m) : callOK Tryz.prog W0 29 [(ptr w0 0)] K m :=
  evFn_sound pureOk mixedP (fun w => Tryz.call29 _ w) ((e29 (callOK Tryz.prog W0) w0 K m).symm ▸ h)

def s30 (C : CallT) (s0 : Nat) (conf1 : Int) (K : Value → Mem → Prop) (m : Mem) : Prop :=
  ldInt .i64 m s0 34 fun x_1 =>
  st m s0 34 (.int .i64 (IntKind.wrap .i64 (x_1 + 1))) fun m_2 =>
  ldPtr m_2 s0 3 fun p_3 =>
  C 58 [(.pointer p_3), (.int .i64 conf1)] (fun rm_8 m_8 =>
  ∃ x_4 x_5a x_5l x_5c x_6 x_7, rm_8 = (.agg #[(.int .i64 x_4), (.slice x_5a x_5l x_5c), (.int .i64 x_6), (.int .i64 x_7)]) ∧
  allocB m_8 (zeroBlk Tryz.prog 123) fun b_9 m_10 =>
  stL m_10 b_9 0 [(.int .i64 x_4), (.slice x_5a x_5l x_5c), (.int .i64 x_6), (.int .i64 x_7)] fun m_11 =>
  ldInt .i64 m_11 b_9 0 fun x_12 =>
  ifB (x_12 != 0)
  (C 59 [(ptr s0 0), (.bool false), (.slice none 0 0)] (fun rm_13 m_13 =>
  rm_13 = (.tuple #[]) ∧
  K (.bool false) m_13) m_11)
  (ldSl m_11 b_9 1 fun l_14a l_14l l_14c =>
  C 59 [(ptr s0 0), (.bool false), (.slice l_14a l_14l l_14c)] (fun rm_15 m_15 =>
  rm_15 = (.tuple #[]) ∧
  ldInt .i64 m_15 b_9 3 fun x_16 =>
  C 60 [(ptr s0 0), (.int .i64 x_16)] (fun rm_17 m_17 =>
  rm_17 = (.tuple #[]) ∧
  C 61 [(ptr s0 0)] (fun rm_18 m_18 =>
  rm_18 = (.tuple #[]) ∧
  ldPtr m_18 s0 2 fun p_19 =>
  ldSl m_18 b_9 1 fun l_20a l_20l l_20c =>
  C 55 [(.pointer p_19), (.slice l_20a l_20l l_20c), (.bool true)] (fun rm_23 m_23 =>
  ∃ x_21 x_22, rm_23 = (.tuple #[(.int .i64 x_21), (.int .i64 x_22)]) ∧
  ifB (x_22 == 0)
  (ldInt .u16 m_23 s0 32 fun x_24 =>
  (0 : Int) ≤ (IntKind.wrap .u64 (IntKind.wrap .i64 (x_21 - 40))) ∧
  st m_23 s0 32 (.int .u16 (bOr .u16 x_24 (shlV .u16 1 (IntKind.wrap .u64 (IntKind.wrap .i64 (x_21 - 40)))))) fun m_25 =>
  ldInt .i64 m_25 s0 33 fun x_26 =>
  st m_25 s0 33 (.int .i64 (IntKind.wrap .i64 (x_26 + 1))) fun m_27 =>
  ldSl m_27 b_9 1 fun l_28a l_28l l_28c =>
  C 62 [(ptr s0 0), (.slice l_28a l_28l l_28c)] (fun rm_29 m_29 =>
  rm_29 = (.tuple #[]) ∧
  C 63 [(ptr s0 0)] (fun rm_30 m_30 =>
  rm_30 = (.tuple #[]) ∧
  K (.bool true) m_30) m_29) m_27)
  (ldSl m_23 b_9 1 fun l_31a l_31l l_31c =>
  C 62 [(ptr s0 0), (.slice l_31a l_31l l_31c)] (fun rm_32 m_32 =>
  rm_32 = (.tuple #[]) ∧
  C 63 [(ptr s0 0)] (fun rm_33 m_33 =>
  rm_33 = (.tuple #[]) ∧
  K (.bool true) m_33) m_32) m_23)) m_18) m_17) m_15) m_11)) m_2
theorem e30 (C : CallT) (s0 : Nat) (conf1 : Int) (K : Value → Mem → Prop) (m : Mem) : evFn Tryz.prog pureF pureT C [] 30 [(ptr s0 0), (.int .i64 conf1)] K m = s30 C s0 conf1 K m := by kernel_rfl
theorem call30 {W0 : World} {s0 : Nat} {conf1 : Int} {K : Value → Mem → Prop} {m : Mem} (h : s30 (callOK Tryz.prog W0) s0 conf1 K m) : callOK Tryz.prog W0 30 [(ptr s0 0), (.int .i64 conf1)] K m :=
  evFn_sound pureOk mixedP (fun w => Tryz.call30 _ w) ((e30 (callOK Tryz.prog W0) s0 conf1 K m).symm ▸ h)

def s31 (C : CallT) (s0 : Nat) (K : Value → Mem → Prop) (m : Mem) : Prop :=
  allocB m (zeroBlk Tryz.prog 39) fun b_1 m_2 =>
  ldPtr m_2 s0 0 fun p_3 =>
  ldSl m_2 s0 4 fun l_4a l_4l l_4c =>
  C 64 [(.pointer p_3), (.slice l_4a l_4l l_4c)] (fun rm_7 m_7 =>
  ∃ x_5 x_6, rm_7 = (.tuple #[(.string x_5), (.int .i64 x_6)]) ∧
  ldSl m_7 s0 4 fun l_8a l_8l l_8c =>
  ckLe 0 l_8c fun n_9 =>
  st m_7 s0 4 (.slice (slA l_8a 0 l_8c 1) (n_9 - 0) (l_8c - 0)) fun m_10 =>
  ldInt .i64 m_10 s0 34 fun x_11 =>
  ldInt .i64 m_10 s0 35 fun x_12 =>
  stL m_10 b_1 0 [(.int .i64 0), (.int .i64 0), (.bool false), (.slice none 0 0), (.string x_5), (.int .i64 x_11), (.int .i64 x_12)] fun m_13 =>
  ldInt .i64 m_13 b_1 0 fun x_14 =>
  ldInt .i64 m_13 b_1 1 fun x_15 =>
  ldBool m_13 b_1 2 fun y_16 =>
  ldSl m_13 b_1 3 fun l_17a l_17l l_17c =>
  ldStr m_13 b_1 4 fun s_18 =>
  ldInt .i64 m_13 b_1 5 fun x_19 =>
  ldInt .i64 m_13 b_1 6 fun x_20 =>
  K (.agg #[(.int .i64 x_14), (.int .i64 x_15), (.bool y_16), (.slice l_17a l_17l l_17c), (.string s_18), (.int .i64 x_19), (.int .i64 x_20)]) m_13) m_2
theorem e31 (C : CallT) (s0 : Nat) (K : Value → Mem → Prop) (m : Mem) : evFn Tryz.prog pureF pureT C [] 31 [(ptr s0 0)] K m = s31 C s0 K m := by kernel_rfl
theorem call31 {W0 : World} {s0 : Nat} {K : Value → Mem → Prop} {m : Mem} (h : s31 (callOK Tryz.prog W0) s0 K m) : callOK Tryz.prog W0 31 [(ptr s0 0)] K m :=
  evFn_sound pureOk mixedP (fun w => Tryz.call31 _ w) ((e31 (callOK Tryz.prog W0) s0 K m).symm ▸ h)

def s32 (C : CallT) (t0 : Nat) (K : Value → Mem → Prop) (m : Mem) : Prop :=
  ldInt .i64 m t0 12 fun x_1 =>
  K (.int .i64 x_1) m
theorem e32 (C : CallT) (t0 : Nat) (K : Value → Mem → Prop) (m : Mem) : evFn Tryz.prog pureF pureT C [] 32 [(ptr t0 0)] K m = s32 C t0 K m := by kernel_rfl
theorem call32 {W0 : World} {t0 : Nat} {K : Value → Mem → Prop} {m : Mem} (h : s32 (callOK Tryz.prog W0) t0 K m) : callOK Tryz.prog W0 32 [(ptr t0 0)] K m :=
  evFn_sound pureOk mixedP (fun w => Tryz.call32 _ w) ((e32 (callOK Tryz.prog W0) t0 K m).symm ▸ h)

def s33 (C : CallT) (s0 : Nat) (K : Value → Mem → Prop) (m : Mem) : Prop :=
  allocB m (zeroBlk Tryz.prog 39) fun b_1 m_2 =>
  mkSlice m_2 [(.int .i64 0)] 8 12 12 fun b_3 m_4 =>
  loopE [0, 2, 3, 4] (evCode (cfgOf Tryz.prog pureF pureT C [(3, [0, 2, 3, 4])] 33) (codeAt (bodyOf Tryz.prog 33) [1, 1, 0, 1, 0, 0])) (kAt (cfgOf Tryz.prog pureF pureT C [(3, [0, 2, 3, 4])] 33) (bodyOf Tryz.prog 33) [1, 1, 0, 1, 0] (endK Tryz.prog 33 K)) [(0, (ptr s0 0)), (2, (ptr b_1 0)), (3, (.slice (some ⟨b_3, 0, none⟩) (Int.toNat 12) (Int.toNat 12))), (4, (.int .i64 1))] m_4
theorem e33 (C : CallT) (s0 : Nat) (K : Value → Mem → Prop) (m : Mem) : evFn Tryz.prog pureF pureT C [(3, [0, 2, 3, 4])] 33 [(ptr s0 0)] K m = s33 C s0 K m := by kernel_rfl
theorem call33 {W0 : World} {s0 : Nat} {K : Value → Mem → Prop} {m : Mem} (h : s33 (callOK Tryz.prog W0) s0 K m) : callOK Tryz.prog W0 33 [(ptr s0 0)] K m :=
  evFn_sound pureOk mixedP (fun w => Tryz.call33 _ w) ((e33 (callOK Tryz.prog W0) s0 K m).symm ▸ h)
def s33_1 (C : CallT) (s0 : Nat) (t2 : Nat) (m3a : Option Addr) (m3l m3c : Nat) (v4 : Int) (Kt : Exit → Fr → Mem → Prop) (m : Mem) : Prop :=
  ifB (decide (v4 ≤ 12))
  (ldPtr m s0 1 fun p_5 =>
  C 65 [(.pointer p_5), (.int .i64 v4)] (fun rm_7 m_7 =>
  ∃ x_6, rm_7 = (.int .i64 x_6) ∧
  ckP m3a fun b_8 o_8 =>
  ckI (IntKind.wrap .i64 (v4 - 1)) m3l fun j_9 =>
  st m_7 b_8 (o_8 + j_9) (.int .i64 (IntKind.wrap .i64 (0 - v4))) fun m_10 =>
  ifB (x_6 == 1)
  (ckP m3a fun b_11 o_11 =>
  ckI (IntKind.wrap .i64 (v4 - 1)) m3l fun j_12 =>
  st m_10 b_11 (o_11 + j_12) (.int .i64 v4) fun m_13 =>
  Kt .normal [(0, (ptr s0 0)), (2, (ptr t2 0)), (3, (.slice m3a m3l m3c)), (4, (.int .i64 (IntKind.wrap .i64 (v4 + 1))))] m_13)
  (Kt .normal [(0, (ptr s0 0)), (2, (ptr t2 0)), (3, (.slice m3a m3l m3c)), (4, (.int .i64 (IntKind.wrap .i64 (v4 + 1))))] m_10)) m)
  (Kt (.exit 0) [(0, (ptr s0 0)), (2, (ptr t2 0)), (3, (.slice m3a m3l m3c)), (4, (.int .i64 v4))] m)
theorem e33_1 {C : CallT} {s0 : Nat} {t2 : Nat} {m3a : Option Addr} {m3l m3c : Nat} {v4 : Int} {Kt : Exit → Fr → Mem → Prop} {m : Mem} (h : s33_1 C s0 t2 m3a m3l m3c v4 Kt m) : evCode (cfgOf Tryz.prog pureF pureT C [(3, [0, 2, 3, 4])] 33) (codeAt (bodyOf Tryz.prog 33) [1, 1, 0, 1, 0, 0]) (trimK [0, 2, 3, 4] Kt) [(0, (ptr s0 0)), (2, (ptr t2 0)), (3, (.slice m3a m3l m3c)), (4, (.int .i64 v4))] m :=
  (show _ = _ by kernel_rfl : evCode (cfgOf Tryz.prog pureF pureT C [(3, [0, 2, 3, 4])] 33) (codeAt (bodyOf Tryz.prog 33) [1, 1, 0, 1, 0, 0]) (trimK [0, 2, 3, 4] Kt) [(0, (ptr s0 0)), (2, (ptr t2 0)), (3, (.slice m3a m3l m3c)), (4, (.int .i64 v4))] m = s33_1 C s0 t2 m3a m3l m3c v4 Kt m).symm ▸ h
def s33_1x0 (C : CallT) (s0 : Nat) (t2 : Nat) (m3a : Option Addr) (m3l m3c : Nat) (v4 : Int) (K : Value → Mem → Prop) (m : Mem) : Prop :=
  ldSl m s0 4 fun l_14a l_14l l_14c =>
  ckLe 0 l_14c fun n_15 =>
  st m s0 4 (.slice (slA l_14a 0 l_14c 1) (n_15 - 0) (l_14c - 0)) fun m_16 =>
  ldInt .i64 m_16 s0 34 fun x_17 =>
  ldInt .i64 m_16 s0 35 fun x_18 =>
  stL m_16 t2 0 [(.int .i64 0), (.int .i64 0), (.bool true), (.slice m3a m3l m3c), (.string (ByteArray.mk #[])), (.int .i64 x_17), (.int .i64 x_18)] fun m_19 =>
  ldInt .i64 m_19 t2 0 fun x_20 =>
  ldInt .i64 m_19 t2 1 fun x_21 =>
  ldBool m_19 t2 2 fun y_22 =>
  ldSl m_19 t2 3 fun l_23a l_23l l_23c =>
  ldStr m_19 t2 4 fun s_24 =>
  ldInt .i64 m_19 t2 5 fun x_25 =>
  ldInt .i64 m_19 t2 6 fun x_26 =>
  K (.agg #[(.int .i64 x_20), (.int .i64 x_21), (.bool y_22), (.slice l_23a l_23l l_23c), (.string s_24), (.int .i64 x_25), (.int .i64 x_26)]) m_19
theorem e33_1x0 {C : CallT} {kn : Fr → Mem → Prop} {s0 : Nat} {t2 : Nat} {m3a : Option Addr} {m3l m3c : Nat} {v4 : Int} {K : Value → Mem → Prop} {m : Mem} : (andThenE kn (kAt (cfgOf Tryz.prog pureF pureT C [(3, [0, 2, 3, 4])] 33) (bodyOf Tryz.prog 33) [1, 1, 0, 1, 0] (endK Tryz.prog 33 K)) (.exit 0) [(0, (ptr s0 0)), (2, (ptr t2 0)), (3, (.slice m3a m3l m3c)), (4, (.int .i64 v4))] m) = s33_1x0 C s0 t2 m3a m3l m3c v4 K m := by kernel_rfl
def F33_1 (s0 : Nat) (t2 : Nat) (m3a : Option Addr) (m3l m3c : Nat) (v4 : Int) : Fr := [(0, (ptr s0 0)), (2, (ptr t2 0)), (3, (.slice m3a m3l m3c)), (4, (.int .i64 v4))]
theorem loop33_1 {C : CallT} {γ : Type} {s0 : Nat} {t2 : Nat} {m3a : Option Addr} {m3l m3c : Nat} {K : Value → Mem → Prop} {m : Mem} (J : γ → Int → Mem → Prop) (μ : γ → Int → Nat) (g : γ) {v4 : Int} (hJ : J g v4 m)
    (hs : ∀ g v4 m, J g v4 m → s33_1 C s0 t2 m3a m3l m3c v4 (andThenE (fun fr m' => ∃ g' v4', fr = F33_1 s0 t2 m3a m3l m3c v4' ∧ J g' v4' m' ∧ μ g' v4' < μ g v4) (kAt (cfgOf Tryz.prog pureF pureT C [(3, [0, 2, 3, 4])] 33) (bodyOf Tryz.prog 33) [1, 1, 0, 1, 0] (endK Tryz.prog 33 K))) m) :
    loopE [0, 2, 3, 4] (evCode (cfgOf Tryz.prog pureF pureT C [(3, [0, 2, 3, 4])] 33) (codeAt (bodyOf Tryz.prog 33) [1, 1, 0, 1, 0, 0])) (kAt (cfgOf Tryz.prog pureF pureT C [(3, [0, 2, 3, 4])] 33) (bodyOf Tryz.prog 33) [1, 1, 0, 1, 0] (endK Tryz.prog 33 K)) [(0, (ptr s0 0)), (2, (ptr t2 0)), (3, (.slice m3a m3l m3c)), (4, (.int .i64 v4))] m := by
  refine loop_rule (σ := γ × Int) (fun s => F33_1 s0 t2 m3a m3l m3c s.2) (fun s m => J s.1 s.2 m) (fun s => μ s.1 s.2) (g, v4) rfl hJ ?_
  intro s m hJ
  have h := hs s.1 s.2 m hJ
  refine e33_1 ?_
  refine Eq.mp (congrArg (fun B => s33_1 C s0 t2 m3a m3l m3c s.2 (andThenE B (kAt (cfgOf Tryz.prog pureF pureT C [(3, [0, 2, 3, 4])] 33) (bodyOf Tryz.prog 33) [1, 1, 0, 1, 0] (endK Tryz.prog 33 K))) m) ?_) h
  funext fr m'
  apply propext
  constructor
  · rintro ⟨g', v4', h1, h2, h3⟩
    exact ⟨(g', v4'), h1, h2, h3⟩
  · rintro ⟨⟨g', v4'⟩, h1, h2, h3⟩
    exact ⟨g', v4', h1, h2, h3⟩

def s34 (C : CallT) (s0 : Nat) (K : Value → Mem → Prop) (m : Mem) : Prop :=
  loopE [0, 3, 4] (evCode (cfgOf Tryz.prog pureF pureT C [(3, [0, 3, 4])] 34) (codeAt (bodyOf Tryz.prog 34) [1, 1, 0, 1, 0, 0])) (kAt (cfgOf Tryz.prog pureF pureT C [(3, [0, 3, 4])] 34) (bodyOf Tryz.prog 34) [1, 1, 0, 1, 0] (endK Tryz.prog 34 K)) [(0, (ptr s0 0)), (3, (.int .i64 0)), (4, (.int .i64 1))] m
theorem e34 (C : CallT) (s0 : Nat) (K : Value → Mem → Prop) (m : Mem) : evFn Tryz.prog pureF pureT C [(3, [0, 3, 4])] 34 [(ptr s0 0)] K m = s34 C s0 K m := by kernel_rfl
theorem call34 {W0 : World} {s0 : Nat} {K : Value → Mem → Prop} {m : Mem} (h : s34 (callOK Tryz.prog W0) s0 K m) : callOK Tryz.prog W0 34 [(ptr s0 0)] K m :=
  evFn_sound pureOk mixedP (fun w => Tryz.call34 _ w) ((e34 (callOK Tryz.prog W0) s0 K m).symm ▸ h)
def s34_1 (C : CallT) (s0 : Nat) (best3 : Int) (v4 : Int) (Kt : Exit → Fr → Mem → Prop) (m : Mem) : Prop :=
  ifB (decide (v4 ≤ 12))
  (ldPtr m s0 1 fun p_1 =>
  C 65 [(.pointer p_1), (.int .i64 v4)] (fun rm_3 m_3 =>
  ∃ x_2, rm_3 = (.int .i64 x_2) ∧
  ifB (x_2 == 0)
  (ifB (best3 == 0)
  (Kt .normal [(0, (ptr s0 0)), (3, (.int .i64 v4)), (4, (.int .i64 (IntKind.wrap .i64 (v4 + 1))))] m_3)
  (ckI v4 13 fun j_4 =>
  ldInt .i64 m_3 s0 (5 + j_4) fun x_5 =>
  ckI best3 13 fun j_6 =>
  ldInt .i64 m_3 s0 (5 + j_6) fun x_7 =>
  ifB (decide (x_5 > x_7))
  (Kt .normal [(0, (ptr s0 0)), (3, (.int .i64 v4)), (4, (.int .i64 (IntKind.wrap .i64 (v4 + 1))))] m_3)
  (Kt .normal [(0, (ptr s0 0)), (3, (.int .i64 best3)), (4, (.int .i64 (IntKind.wrap .i64 (v4 + 1))))] m_3)))
  (Kt .normal [(0, (ptr s0 0)), (3, (.int .i64 best3)), (4, (.int .i64 (IntKind.wrap .i64 (v4 + 1))))] m_3)) m)
  (Kt (.exit 0) [(0, (ptr s0 0)), (3, (.int .i64 best3)), (4, (.int .i64 v4))] m)
theorem e34_1 {C : CallT} {s0 : Nat} {best3 : Int} {v4 : Int} {Kt : Exit → Fr → Mem → Prop} {m : Mem} (h : s34_1 C s0 best3 v4 Kt m) : evCode (cfgOf Tryz.prog pureF pureT C [(3, [0, 3, 4])] 34) (codeAt (bodyOf Tryz.prog 34) [1, 1, 0, 1, 0, 0]) (trimK [0, 3, 4] Kt) [(0, (ptr s0 0)), (3, (.int .i64 best3)), (4, (.int .i64 v4))] m :=
  (show _ = _ by kernel_rfl : evCode (cfgOf Tryz.prog pureF pureT C [(3, [0, 3, 4])] 34) (codeAt (bodyOf Tryz.prog 34) [1, 1, 0, 1, 0, 0]) (trimK [0, 3, 4] Kt) [(0, (ptr s0 0)), (3, (.int .i64 best3)), (4, (.int .i64 v4))] m = s34_1 C s0 best3 v4 Kt m).symm ▸ h
def s34_1x0 (C : CallT) (s0 : Nat) (best3 : Int) (v4 : Int) (K : Value → Mem → Prop) (m : Mem) : Prop :=
  ckI best3 13 fun j_8 =>
  ldInt .i64 m s0 (18 + j_8) fun x_9 =>
  K (.int .i64 (IntKind.wrap .i64 (best3 * x_9))) m
theorem e34_1x0 {C : CallT} {kn : Fr → Mem → Prop} {s0 : Nat} {best3 : Int} {v4 : Int} {K : Value → Mem → Prop} {m : Mem} : (andThenE kn (kAt (cfgOf Tryz.prog pureF pureT C [(3, [0, 3, 4])] 34) (bodyOf Tryz.prog 34) [1, 1, 0, 1, 0] (endK Tryz.prog 34 K)) (.exit 0) [(0, (ptr s0 0)), (3, (.int .i64 best3)), (4, (.int .i64 v4))] m) = s34_1x0 C s0 best3 v4 K m := by kernel_rfl
def F34_1 (s0 : Nat) (best3 : Int) (v4 : Int) : Fr := [(0, (ptr s0 0)), (3, (.int .i64 best3)), (4, (.int .i64 v4))]
theorem loop34_1 {C : CallT} {γ : Type} {s0 : Nat} {K : Value → Mem → Prop} {m : Mem} (J : γ → Int → Int → Mem → Prop) (μ : γ → Int → Int → Nat) (g : γ) {best3 : Int} {v4 : Int} (hJ : J g best3 v4 m)
    (hs : ∀ g best3 v4 m, J g best3 v4 m → s34_1 C s0 best3 v4 (andThenE (fun fr m' => ∃ g' best3' v4', fr = F34_1 s0 best3' v4' ∧ J g' best3' v4' m' ∧ μ g' best3' v4' < μ g best3 v4) (kAt (cfgOf Tryz.prog pureF pureT C [(3, [0, 3, 4])] 34) (bodyOf Tryz.prog 34) [1, 1, 0, 1, 0] (endK Tryz.prog 34 K))) m) :
    loopE [0, 3, 4] (evCode (cfgOf Tryz.prog pureF pureT C [(3, [0, 3, 4])] 34) (codeAt (bodyOf Tryz.prog 34) [1, 1, 0, 1, 0, 0])) (kAt (cfgOf Tryz.prog pureF pureT C [(3, [0, 3, 4])] 34) (bodyOf Tryz.prog 34) [1, 1, 0, 1, 0] (endK Tryz.prog 34 K)) [(0, (ptr s0 0)), (3, (.int .i64 best3)), (4, (.int .i64 v4))] m := by
  refine loop_rule (σ := γ × Int × Int) (fun s => F34_1 s0 s.2.1 s.2.2) (fun s m => J s.1 s.2.1 s.2.2 m) (fun s => μ s.1 s.2.1 s.2.2) (g, best3, v4) rfl hJ ?_
  intro s m hJ
  have h := hs s.1 s.2.1 s.2.2 m hJ
  refine e34_1 ?_
  refine Eq.mp (congrArg (fun B => s34_1 C s0 s.2.1 s.2.2 (andThenE B (kAt (cfgOf Tryz.prog pureF pureT C [(3, [0, 3, 4])] 34) (bodyOf Tryz.prog 34) [1, 1, 0, 1, 0] (endK Tryz.prog 34 K))) m) ?_) h
  funext fr m'
  apply propext
  constructor
  · rintro ⟨g', best3', v4', h1, h2, h3⟩
    exact ⟨(g', best3', v4'), h1, h2, h3⟩
  · rintro ⟨⟨g', best3', v4'⟩, h1, h2, h3⟩
    exact ⟨g', best3', v4', h1, h2, h3⟩

def s35 (C : CallT) (t0 : Nat) (l1 : Int) (K : Value → Mem → Prop) (m : Mem) : Prop :=
  ifB (!(goGoodLit l1))
  (K (.int .i64 7) m)
  (ckI (goVar l1) 13 fun j_1 =>
  ldInt .i8 m t0 (15 + j_1) fun x_2 =>
  ifB (x_2 != 0)
  (K (.int .i64 9) m)
  (ldInt .i64 m t0 14 fun x_3 =>
  st m t0 14 (.int .i64 (IntKind.wrap .i64 (x_3 + 1))) fun m_4 =>
  ldInt .i64 m_4 t0 14 fun x_5 =>
  ldInt .i64 m_4 t0 12 fun x_6 =>
  ckI x_5 13 fun j_7 =>
  st m_4 t0 (67 + j_7) (.int .i64 x_6) fun m_8 =>
  C 68 [(ptr t0 0), (.int .i64 l1), (.int .i64 (goVar l1)), (.int .i64 (-1))] (fun rm_9 m_9 =>
  rm_9 = (.tuple #[]) ∧
  K (.int .i64 0) m_9) m_8))
theorem e35 (C : CallT) (t0 : Nat) (l1 : Int) (K : Value → Mem → Prop) (m : Mem) : evFn Tryz.prog pureF pureT C [] 35 [(ptr t0 0), (.int .i64 l1)] K m = s35 C t0 l1 K m := by kernel_rfl
theorem call35 {W0 : World} {t0 : Nat} {l1 : Int} {K : Value → Mem → Prop} {m : Mem} (h : s35 (callOK Tryz.prog W0) t0 l1 K m) : callOK Tryz.prog W0 35 [(ptr t0 0), (.int .i64 l1)] K m :=
  evFn_sound pureOk mixedP (fun w => Tryz.call35 _ w) ((e35 (callOK Tryz.prog W0) t0 l1 K m).symm ▸ h)

def s36 (C : CallT) (e0 : Int) (where1 : Int) (at2 : Int) (K : Value → Mem → Prop) (m : Mem) : Prop :=
  allocB m (zeroBlk Tryz.prog 41) fun b_1 m_2 =>
  stL m_2 b_1 0 [(.int .i64 e0), (.int .i64 where1), (.int .i64 at2)] fun m_3 =>
  ldInt .i64 m_3 b_1 0 fun x_4 =>
  ldInt .i64 m_3 b_1 1 fun x_5 =>
  ldInt .i64 m_3 b_1 2 fun x_6 =>
  K (.agg #[(.int .i64 x_4), (.int .i64 x_5), (.int .i64 x_6)]) m_3
theorem e36 (C : CallT) (e0 : Int) (where1 : Int) (at2 : Int) (K : Value → Mem → Prop) (m : Mem) : evFn Tryz.prog pureF pureT C [] 36 [(.int .i64 e0), (.int .i64 where1), (.int .i64 at2)] K m = s36 C e0 where1 at2 K m := by kernel_rfl
theorem call36 {W0 : World} {e0 : Int} {where1 : Int} {at2 : Int} {K : Value → Mem → Prop} {m : Mem} (h : s36 (callOK Tryz.prog W0) e0 where1 at2 K m) : callOK Tryz.prog W0 36 [(.int .i64 e0), (.int .i64 where1), (.int .i64 at2)] K m :=
  evFn_sound pureOk mixedP (fun w => Tryz.call36 _ w) ((e36 (callOK Tryz.prog W0) e0 where1 at2 K m).symm ▸ h)

def s37 (C : CallT) (flat0a : Option Addr) (flat0l flat0c : Nat) (K : Value → Mem → Prop) (m : Mem) : Prop :=
  loopE [0, 2, 3, 4] (evCode (cfgOf Tryz.prog pureF pureT C [(3, [0, 2, 3, 4])] 37) (codeAt (bodyOf Tryz.prog 37) [1, 1, 0, 1, 0, 0])) (kAt (cfgOf Tryz.prog pureF pureT C [(3, [0, 2, 3, 4])] 37) (bodyOf Tryz.prog 37) [1, 1, 0, 1, 0] (endK Tryz.prog 37 K)) [(0, (.slice flat0a flat0l flat0c)), (2, (.int .i64 0)), (3, (.int .i64 0)), (4, (.int .i64 0))] m
theorem e37 (C : CallT) (flat0a : Option Addr) (flat0l flat0c : Nat) (K : Value → Mem → Prop) (m : Mem) : evFn Tryz.prog pureF pureT C [(3, [0, 2, 3, 4])] 37 [(.slice flat0a flat0l flat0c)] K m = s37 C flat0a flat0l flat0c K m := by kernel_rfl
theorem call37 {W0 : World} {flat0a : Option Addr} {flat0l flat0c : Nat} {K : Value → Mem → Prop} {m : Mem} (h : s37 (callOK Tryz.prog W0) flat0a flat0l flat0c K m) : callOK Tryz.prog W0 37 [(.slice flat0a flat0l flat0c)] K m :=
  evFn_sound pureOk mixedP (fun w => Tryz.call37 _ w) ((e37 (callOK Tryz.prog W0) flat0a flat0l flat0c K m).symm ▸ h)
def s37_1 (C : CallT) (flat0a : Option Addr) (flat0l flat0c : Nat) (t2 : Int) (rows3 : Int) (i4 : Int) (Kt : Exit → Fr → Mem → Prop) (m : Mem) : Prop :=
  ifB (decide (i4 < ((flat0l : Nat) : Int)))
  (ckP flat0a fun b_1 o_1 =>
  ckI i4 flat0l fun j_2 =>
  ldInt .i64 m b_1 (o_1 + j_2) fun x_3 =>
  ifB (x_3 == 13)
  (Kt .ret [(0, (.slice flat0a flat0l flat0c)), (2, (.int .i64 16)), (3, (.int .i64 rows3)), (4, (.int .i64 i4))] m)
  (ckP flat0a fun b_4 o_4 =>
  ckI i4 flat0l fun j_5 =>
  ldInt .i64 m b_4 (o_4 + j_5) fun x_6 =>
  ifB (x_6 == 0)
  (Kt .normal [(0, (.slice flat0a flat0l flat0c)), (2, (.int .i64 t2)), (3, (.int .i64 (IntKind.wrap .i64 (rows3 + 1)))), (4, (.int .i64 (IntKind.wrap .i64 (i4 + 1))))] m)
  (Kt .normal [(0, (.slice flat0a flat0l flat0c)), (2, (.int .i64 t2)), (3, (.int .i64 rows3)), (4, (.int .i64 (IntKind.wrap .i64 (i4 + 1))))] m)))
  (Kt (.exit 0) [(0, (.slice flat0a flat0l flat0c)), (2, (.int .i64 t2)), (3, (.int .i64 rows3)), (4, (.int .i64 i4))] m)
theorem e37_1 {C : CallT} {flat0a : Option Addr} {flat0l flat0c : Nat} {t2 : Int} {rows3 : Int} {i4 : Int} {Kt : Exit → Fr → Mem → Prop} {m : Mem} (h : s37_1 C flat0a flat0l flat0c t2 rows3 i4 Kt m) : evCode (cfgOf Tryz.prog pureF pureT C [(3, [0, 2, 3, 4])] 37) (codeAt (bodyOf Tryz.prog 37) [1, 1, 0, 1, 0, 0]) (trimK [0, 2, 3, 4] Kt) [(0, (.slice flat0a flat0l flat0c)), (2, (.int .i64 t2)), (3, (.int .i64 rows3)), (4, (.int .i64 i4))] m :=
  (show _ = _ by kernel_rfl : evCode (cfgOf Tryz.prog pureF pureT C [(3, [0, 2, 3, 4])] 37) (codeAt (bodyOf Tryz.prog 37) [1, 1, 0, 1, 0, 0]) (trimK [0, 2, 3, 4] Kt) [(0, (.slice flat0a flat0l flat0c)), (2, (.int .i64 t2)), (3, (.int .i64 rows3)), (4, (.int .i64 i4))] m = s37_1 C flat0a flat0l flat0c t2 rows3 i4 Kt m).symm ▸ h
def s37_1r (C : CallT) (flat0a : Option Addr) (flat0l flat0c : Nat) (t2 : Int) (rows3 : Int) (i4 : Int) (K : Value → Mem → Prop) (m : Mem) : Prop :=
  K (.int .i64 t2) m
theorem e37_1r {C : CallT} {kn : Fr → Mem → Prop} {flat0a : Option Addr} {flat0l flat0c : Nat} {t2 : Int} {rows3 : Int} {i4 : Int} {K : Value → Mem → Prop} {m : Mem} : (andThenE kn (kAt (cfgOf Tryz.prog pureF pureT C [(3, [0, 2, 3, 4])] 37) (bodyOf Tryz.prog 37) [1, 1, 0, 1, 0] (endK Tryz.prog 37 K)) .ret [(0, (.slice flat0a flat0l flat0c)), (2, (.int .i64 t2)), (3, (.int .i64 rows3)), (4, (.int .i64 i4))] m) = s37_1r C flat0a flat0l flat0c t2 rows3 i4 K m := by kernel_rfl
def s37_1x0 (C : CallT) (flat0a : Option Addr) (flat0l flat0c : Nat) (t2 : Int) (rows3 : Int) (i4 : Int) (K : Value → Mem → Prop) (m : Mem) : Prop :=
  ifB (decide (rows3 > 40))
  (K (.int .i64 17) m)
  (K (.int .i64 0) m)
theorem e37_1x0 {C : CallT} {kn : Fr → Mem → Prop} {flat0a : Option Addr} {flat0l flat0c : Nat} {t2 : Int} {rows3 : Int} {i4 : Int} {K : Value → Mem → Prop} {m : Mem} : (andThenE kn (kAt (cfgOf Tryz.prog pureF pureT C [(3, [0, 2, 3, 4])] 37) (bodyOf Tryz.prog 37) [1, 1, 0, 1, 0] (endK Tryz.prog 37 K)) (.exit 0) [(0, (.slice flat0a flat0l flat0c)), (2, (.int .i64 t2)), (3, (.int .i64 rows3)), (4, (.int .i64 i4))] m) = s37_1x0 C flat0a flat0l flat0c t2 rows3 i4 K m := by kernel_rfl
def F37_1 (flat0a : Option Addr) (flat0l flat0c : Nat) (t2 : Int) (rows3 : Int) (i4 : Int) : Fr := [(0, (.slice flat0a flat0l flat0c)), (2, (.int .i64 t2)), (3, (.int .i64 rows3)), (4, (.int .i64 i4))]
theorem loop37_1 {C : CallT} {γ : Type} {flat0a : Option Addr} {flat0l flat0c : Nat} {K : Value → Mem → Prop} {m : Mem} (J : γ → Int → Int → Int → Mem → Prop) (μ : γ → Int → Int → Int → Nat) (g : γ) {t2 : Int} {rows3 : Int} {i4 : Int} (hJ : J g t2 rows3 i4 m)
    (hs : ∀ g t2 rows3 i4 m, J g t2 rows3 i4 m → s37_1 C flat0a flat0l flat0c t2 rows3 i4 (andThenE (fun fr m' => ∃ g' t2' rows3' i4', fr = F37_1 flat0a flat0l flat0c t2' rows3' i4' ∧ J g' t2' rows3' i4' m' ∧ μ g' t2' rows3' i4' < μ g t2 rows3 i4) (kAt (cfgOf Tryz.prog pureF pureT C [(3, [0, 2, 3, 4])] 37) (bodyOf Tryz.prog 37) [1, 1, 0, 1, 0] (endK Tryz.prog 37 K))) m) :
    loopE [0, 2, 3, 4] (evCode (cfgOf Tryz.prog pureF pureT C [(3, [0, 2, 3, 4])] 37) (codeAt (bodyOf Tryz.prog 37) [1, 1, 0, 1, 0, 0])) (kAt (cfgOf Tryz.prog pureF pureT C [(3, [0, 2, 3, 4])] 37) (bodyOf Tryz.prog 37) [1, 1, 0, 1, 0] (endK Tryz.prog 37 K)) [(0, (.slice flat0a flat0l flat0c)), (2, (.int .i64 t2)), (3, (.int .i64 rows3)), (4, (.int .i64 i4))] m := by
  refine loop_rule (σ := γ × Int × Int × Int) (fun s => F37_1 flat0a flat0l flat0c s.2.1 s.2.2.1 s.2.2.2) (fun s m => J s.1 s.2.1 s.2.2.1 s.2.2.2 m) (fun s => μ s.1 s.2.1 s.2.2.1 s.2.2.2) (g, t2, rows3, i4) rfl hJ ?_
  intro s m hJ
  have h := hs s.1 s.2.1 s.2.2.1 s.2.2.2 m hJ
  refine e37_1 ?_
  refine Eq.mp (congrArg (fun B => s37_1 C flat0a flat0l flat0c s.2.1 s.2.2.1 s.2.2.2 (andThenE B (kAt (cfgOf Tryz.prog pureF pureT C [(3, [0, 2, 3, 4])] 37) (bodyOf Tryz.prog 37) [1, 1, 0, 1, 0] (endK Tryz.prog 37 K))) m) ?_) h
  funext fr m'
  apply propext
  constructor
  · rintro ⟨g', t2', rows3', i4', h1, h2, h3⟩
    exact ⟨(g', t2', rows3', i4'), h1, h2, h3⟩
  · rintro ⟨⟨g', t2', rows3', i4'⟩, h1, h2, h3⟩
    exact ⟨g', t2', rows3', i4', h1, h2, h3⟩

def s38 (C : CallT) (k0 : Nat) (K : Value → Mem → Prop) (m : Mem) : Prop :=
  loopE [0, 2] (evCode (cfgOf Tryz.prog pureF pureT C [(1, [0, 2])] 38) (codeAt (bodyOf Tryz.prog 38) [0, 1, 0, 0])) (kAt (cfgOf Tryz.prog pureF pureT C [(1, [0, 2])] 38) (bodyOf Tryz.prog 38) [0, 1, 0] (endK Tryz.prog 38 K)) [(0, (ptr k0 0)), (2, (.int .i64 0))] m
theorem e38 (C : CallT) (k0 : Nat) (K : Value → Mem → Prop) (m : Mem) : evFn Tryz.prog pureF pureT C [(1, [0, 2])] 38 [(ptr k0 0)] K m = s38 C k0 K m := by kernel_rfl
theorem call38 {W0 : World} {k0 : Nat} {K : Value → Mem → Prop} {m : Mem} (h : s38 (callOK Tryz.prog W0) k0 K m) : callOK Tryz.prog W0 38 [(ptr k0 0)] K m :=
  evFn_sound pureOk mixedP (fun w => Tryz.call38 _ w) ((e38 (callOK Tryz.prog W0) k0 K m).symm ▸ h)
def s38_1 (C : CallT) (k0 : Nat) (s2 : Int) (Kt : Exit → Fr → Mem → Prop) (m : Mem) : Prop :=
  ifB (decide (s2 < 64))
  (ldInt .u64 m k0 129 fun x_1 =>
  ifB ((bAnd .u64 x_1 (goSlotBit s2)) != 0)
  (ckI s2 64 fun j_2 =>
  st m k0 (1 + j_2) (.int .u16 0) fun m_3 =>
  ckI s2 64 fun j_4 =>
  st m_3 k0 (65 + j_4) (.int .u16 0) fun m_5 =>
  Kt .normal [(0, (ptr k0 0)), (2, (.int .i64 (IntKind.wrap .i64 (s2 + 1))))] m_5)
  (Kt .normal [(0, (ptr k0 0)), (2, (.int .i64 (IntKind.wrap .i64 (s2 + 1))))] m))
  (Kt (.exit 0) [(0, (ptr k0 0)), (2, (.int .i64 s2))] m)
theorem e38_1 {C : CallT} {k0 : Nat} {s2 : Int} {Kt : Exit → Fr → Mem → Prop} {m : Mem} (h : s38_1 C k0 s2 Kt m) : evCode (cfgOf Tryz.prog pureF pureT C [(1, [0, 2])] 38) (codeAt (bodyOf Tryz.prog 38) [0, 1, 0, 0]) (trimK [0, 2] Kt) [(0, (ptr k0 0)), (2, (.int .i64 s2))] m :=
  (show _ = _ by kernel_rfl : evCode (cfgOf Tryz.prog pureF pureT C [(1, [0, 2])] 38) (codeAt (bodyOf Tryz.prog 38) [0, 1, 0, 0]) (trimK [0, 2] Kt) [(0, (ptr k0 0)), (2, (.int .i64 s2))] m = s38_1 C k0 s2 Kt m).symm ▸ h
def s38_1x0 (C : CallT) (k0 : Nat) (s2 : Int) (K : Value → Mem → Prop) (m : Mem) : Prop :=
  st m k0 129 (.int .u64 0) fun m_6 =>
  st m_6 k0 130 (.int .i64 0) fun m_7 =>
  K (.tuple #[]) m_7
theorem e38_1x0 {C : CallT} {kn : Fr → Mem → Prop} {k0 : Nat} {s2 : Int} {K : Value → Mem → Prop} {m : Mem} : (andThenE kn (kAt (cfgOf Tryz.prog pureF pureT C [(1, [0, 2])] 38) (bodyOf Tryz.prog 38) [0, 1, 0] (endK Tryz.prog 38 K)) (.exit 0) [(0, (ptr k0 0)), (2, (.int .i64 s2))] m) = s38_1x0 C k0 s2 K m := by kernel_rfl
def F38_1 (k0 : Nat) (s2 : Int) : Fr := [(0, (ptr k0 0)), (2, (.int .i64 s2))]
theorem loop38_1 {C : CallT} {γ : Type} {k0 : Nat} {K : Value → Mem → Prop} {m : Mem} (J : γ → Int → Mem → Prop) (μ : γ → Int → Nat) (g : γ) {s2 : Int} (hJ : J g s2 m)
    (hs : ∀ g s2 m, J g s2 m → s38_1 C k0 s2 (andThenE (fun fr m' => ∃ g' s2', fr = F38_1 k0 s2' ∧ J g' s2' m' ∧ μ g' s2' < μ g s2) (kAt (cfgOf Tryz.prog pureF pureT C [(1, [0, 2])] 38) (bodyOf Tryz.prog 38) [0, 1, 0] (endK Tryz.prog 38 K))) m) :
    loopE [0, 2] (evCode (cfgOf Tryz.prog pureF pureT C [(1, [0, 2])] 38) (codeAt (bodyOf Tryz.prog 38) [0, 1, 0, 0])) (kAt (cfgOf Tryz.prog pureF pureT C [(1, [0, 2])] 38) (bodyOf Tryz.prog 38) [0, 1, 0] (endK Tryz.prog 38 K)) [(0, (ptr k0 0)), (2, (.int .i64 s2))] m := by
  refine loop_rule (σ := γ × Int) (fun s => F38_1 k0 s.2) (fun s m => J s.1 s.2 m) (fun s => μ s.1 s.2) (g, s2) rfl hJ ?_
  intro s m hJ
  have h := hs s.1 s.2 m hJ
  refine e38_1 ?_
  refine Eq.mp (congrArg (fun B => s38_1 C k0 s.2 (andThenE B (kAt (cfgOf Tryz.prog pureF pureT C [(1, [0, 2])] 38) (bodyOf Tryz.prog 38) [0, 1, 0] (endK Tryz.prog 38 K))) m) ?_) h
  funext fr m'
  apply propext
  constructor
  · rintro ⟨g', s2', h1, h2, h3⟩
    exact ⟨(g', s2'), h1, h2, h3⟩
  · rintro ⟨⟨g', s2'⟩, h1, h2, h3⟩
    exact ⟨g', s2', h1, h2, h3⟩

def s39 (C : CallT) (k0 : Nat) (flat1a : Option Addr) (flat1l flat1c : Nat) (K : Value → Mem → Prop) (m : Mem) : Prop :=
  loopE [0, 1, 4] (evCode (cfgOf Tryz.prog pureF pureT C [(1, [0, 1, 4])] 39) (codeAt (bodyOf Tryz.prog 39) [1, 0, 0])) (kAt (cfgOf Tryz.prog pureF pureT C [(1, [0, 1, 4])] 39) (bodyOf Tryz.prog 39) [1, 0] (endK Tryz.prog 39 K)) [(0, (ptr k0 0)), (1, (.slice flat1a flat1l flat1c)), (4, (.int .i64 0))] m
theorem e39 (C : CallT) (k0 : Nat) (flat1a : Option Addr) (flat1l flat1c : Nat) (K : Value → Mem → Prop) (m : Mem) : evFn Tryz.prog pureF pureT C [(1, [0, 1, 4])] 39 [(ptr k0 0), (.slice flat1a flat1l flat1c)] K m = s39 C k0 flat1a flat1l flat1c K m := by kernel_rfl
theorem call39 {W0 : World} {k0 : Nat} {flat1a : Option Addr} {flat1l flat1c : Nat} {K : Value → Mem → Prop} {m : Mem} (h : s39 (callOK Tryz.prog W0) k0 flat1a flat1l flat1c K m) : callOK Tryz.prog W0 39 [(ptr k0 0), (.slice flat1a flat1l flat1c)] K m :=
  evFn_sound pureOk mixedP (fun w => Tryz.call39 _ w) ((e39 (callOK Tryz.prog W0) k0 flat1a flat1l flat1c K m).symm ▸ h)
def s39_1 (C : CallT) (k0 : Nat) (flat1a : Option Addr) (flat1l flat1c : Nat) (at4 : Int) (Kt : Exit → Fr → Mem → Prop) (m : Mem) : Prop :=
  ifB (decide (at4 < ((flat1l : Nat) : Int)))
  (C 69 [(.slice flat1a flat1l flat1c), (.int .i64 at4)] (fun rm_5 m_5 =>
  ∃ x_1 x_2 x_3 x_4, rm_5 = (.agg #[(.int .u16 x_1), (.int .u16 x_2), (.bool x_3), (.int .i64 x_4)]) ∧
  allocB m_5 (zeroBlk Tryz.prog 131) fun b_6 m_7 =>
  stL m_7 b_6 0 [(.int .u16 x_1), (.int .u16 x_2), (.bool x_3), (.int .i64 x_4)] fun m_8 =>
  ldInt .u16 m_8 b_6 0 fun x_9 =>
  ldInt .u16 m_8 b_6 1 fun x_10 =>
  C 70 [(ptr k0 0), (.int .u16 x_9), (.int .u16 x_10)] (fun rm_11 m_11 =>
  rm_11 = (.tuple #[]) ∧
  ldInt .i64 m_11 b_6 3 fun x_12 =>
  Kt .normal [(0, (ptr k0 0)), (1, (.slice flat1a flat1l flat1c)), (4, (.int .i64 x_12))] m_11) m_8) m)
  (Kt (.exit 0) [(0, (ptr k0 0)), (1, (.slice flat1a flat1l flat1c)), (4, (.int .i64 at4))] m)
theorem e39_1 {C : CallT} {k0 : Nat} {flat1a : Option Addr} {flat1l flat1c : Nat} {at4 : Int} {Kt : Exit → Fr → Mem → Prop} {m : Mem} (h : s39_1 C k0 flat1a flat1l flat1c at4 Kt m) : evCode (cfgOf Tryz.prog pureF pureT C [(1, [0, 1, 4])] 39) (codeAt (bodyOf Tryz.prog 39) [1, 0, 0]) (trimK [0, 1, 4] Kt) [(0, (ptr k0 0)), (1, (.slice flat1a flat1l flat1c)), (4, (.int .i64 at4))] m :=
  (show _ = _ by kernel_rfl : evCode (cfgOf Tryz.prog pureF pureT C [(1, [0, 1, 4])] 39) (codeAt (bodyOf Tryz.prog 39) [1, 0, 0]) (trimK [0, 1, 4] Kt) [(0, (ptr k0 0)), (1, (.slice flat1a flat1l flat1c)), (4, (.int .i64 at4))] m = s39_1 C k0 flat1a flat1l flat1c at4 Kt m).symm ▸ h
def s39_1x0 (C : CallT) (k0 : Nat) (flat1a : Option Addr) (flat1l flat1c : Nat) (at4 : Int) (K : Value → Mem → Prop) (m : Mem) : Prop :=
  K (.tuple #[]) m
theorem e39_1x0 {C : CallT} {kn : Fr → Mem → Prop} {k0 : Nat} {flat1a : Option Addr} {flat1l flat1c : Nat} {at4 : Int} {K : Value → Mem → Prop} {m : Mem} : (andThenE kn (kAt (cfgOf Tryz.prog pureF pureT C [(1, [0, 1, 4])] 39) (bodyOf Tryz.prog 39) [1, 0] (endK Tryz.prog 39 K)) (.exit 0) [(0, (ptr k0 0)), (1, (.slice flat1a flat1l flat1c)), (4, (.int .i64 at4))] m) = s39_1x0 C k0 flat1a flat1l flat1c at4 K m := by kernel_rfl
def F39_1 (k0 : Nat) (flat1a : Option Addr) (flat1l flat1c : Nat) (at4 : Int) : Fr := [(0, (ptr k0 0)), (1, (.slice flat1a flat1l flat1c)), (4, (.int .i64 at4))]
theorem loop39_1 {C : CallT} {γ : Type} {k0 : Nat} {flat1a : Option Addr} {flat1l flat1c : Nat} {K : Value → Mem → Prop} {m : Mem} (J : γ → Int → Mem → Prop) (μ : γ → Int → Nat) (g : γ) {at4 : Int} (hJ : J g at4 m)
    (hs : ∀ g at4 m, J g at4 m → s39_1 C k0 flat1a flat1l flat1c at4 (andThenE (fun fr m' => ∃ g' at4', fr = F39_1 k0 flat1a flat1l flat1c at4' ∧ J g' at4' m' ∧ μ g' at4' < μ g at4) (kAt (cfgOf Tryz.prog pureF pureT C [(1, [0, 1, 4])] 39) (bodyOf Tryz.prog 39) [1, 0] (endK Tryz.prog 39 K))) m) :
    loopE [0, 1, 4] (evCode (cfgOf Tryz.prog pureF pureT C [(1, [0, 1, 4])] 39) (codeAt (bodyOf Tryz.prog 39) [1, 0, 0])) (kAt (cfgOf Tryz.prog pureF pureT C [(1, [0, 1, 4])] 39) (bodyOf Tryz.prog 39) [1, 0] (endK Tryz.prog 39 K)) [(0, (ptr k0 0)), (1, (.slice flat1a flat1l flat1c)), (4, (.int .i64 at4))] m := by
  refine loop_rule (σ := γ × Int) (fun s => F39_1 k0 flat1a flat1l flat1c s.2) (fun s m => J s.1 s.2 m) (fun s => μ s.1 s.2) (g, at4) rfl hJ ?_
  intro s m hJ
  have h := hs s.1 s.2 m hJ
  refine e39_1 ?_
  refine Eq.mp (congrArg (fun B => s39_1 C k0 flat1a flat1l flat1c s.2 (andThenE B (kAt (cfgOf Tryz.prog pureF pureT C [(1, [0, 1, 4])] 39) (bodyOf Tryz.prog 39) [1, 0] (endK Tryz.prog 39 K))) m) ?_) h
  funext fr m'
  apply propext
  constructor
  · rintro ⟨g', at4', h1, h2, h3⟩
    exact ⟨(g', at4'), h1, h2, h3⟩
  · rintro ⟨⟨g', at4'⟩, h1, h2, h3⟩
    exact ⟨g', at4', h1, h2, h3⟩

end Go.Proofs.Qxb6500974aGreat
