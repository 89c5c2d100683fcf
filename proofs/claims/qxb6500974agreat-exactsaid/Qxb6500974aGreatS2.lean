import Derived.Test.Qxb6500974aGreatPure
set_option linter.all false
set_option linter.unusedVariables false
set_option maxRecDepth 100000
namespace Go.Proofs.Qxb6500974aGreat
open Go.Eng

def s40 (C : CallT) (k0 : Nat) (flat1a : Option Addr) (flat1l flat1c : Nat) (K : Value → Mem → Prop) (m : Mem) : Prop :=
  allocB m (zeroBlk Tryz.prog 41) fun b_1 m_2 =>
  loopE [0, 1, 4, 5, 6] (evCode (cfgOf Tryz.prog pureF pureT C [(2, [0, 1, 4, 5, 6])] 40) (codeAt (bodyOf Tryz.prog 40) [1, 1, 0, 0, 0])) (kAt (cfgOf Tryz.prog pureF pureT C [(2, [0, 1, 4, 5, 6])] 40) (bodyOf Tryz.prog 40) [1, 1, 0, 0] (endK Tryz.prog 40 K)) [(0, (ptr k0 0)), (1, (.slice flat1a flat1l flat1c)), (4, (ptr b_1 0)), (5, (.int .i64 0)), (6, (.int .i64 0))] m_2
theorem e40 (C : CallT) (k0 : Nat) (flat1a : Option Addr) (flat1l flat1c : Nat) (K : Value → Mem → Prop) (m : Mem) : evFn Tryz.prog pureF pureT C [(2, [0, 1, 4, 5, 6])] 40 [(ptr k0 0), (.slice flat1a flat1l flat1c)] K m = s40 C k0 flat1a flat1l flat1c K m := by kernel_rfl
theorem call40 {W0 : World} {k0 : Nat} {flat1a : Option Addr} {flat1l flat1c : Nat} {K : Value → Mem → Prop} {m : Mem} (h : s40 (callOK Tryz.prog W0) k0 flat1a flat1l flat1c K m) : callOK Tryz.prog W0 40 [(ptr k0 0), (.slice flat1a flat1l flat1c)] K m :=
  evFn_sound pureOk mixedP (fun w => Tryz.call40 _ w) ((e40 (callOK Tryz.prog W0) k0 flat1a flat1l flat1c K m).symm ▸ h)
def s40_1 (C : CallT) (k0 : Nat) (flat1a : Option Addr) (flat1l flat1c : Nat) (t4 : Nat) (at5 : Int) (n6 : Int) (Kt : Exit → Fr → Mem → Prop) (m : Mem) : Prop :=
  ifB (decide (at5 < ((flat1l : Nat) : Int)))
  (C 69 [(.slice flat1a flat1l flat1c), (.int .i64 at5)] (fun rm_7 m_7 =>
  ∃ x_3 x_4 x_5 x_6, rm_7 = (.agg #[(.int .u16 x_3), (.int .u16 x_4), (.bool x_5), (.int .i64 x_6)]) ∧
  allocB m_7 (zeroBlk Tryz.prog 131) fun b_8 m_9 =>
  stL m_9 b_8 0 [(.int .u16 x_3), (.int .u16 x_4), (.bool x_5), (.int .i64 x_6)] fun m_10 =>
  ldInt .u16 m_10 b_8 0 fun x_11 =>
  ldInt .u16 m_10 b_8 1 fun x_12 =>
  ldBool m_10 b_8 2 fun y_13 =>
  ldInt .i64 m_10 b_8 3 fun x_14 =>
  C 71 [(ptr k0 0), (.agg #[(.int .u16 x_11), (.int .u16 x_12), (.bool y_13), (.int .i64 x_14)])] (fun rm_16 m_16 =>
  ∃ x_15, rm_16 = (.int .i64 x_15) ∧
  ifB (x_15 != 0)
  (C 36 [(.int .i64 x_15), (.int .i64 2), (.int .i64 n6)] (fun rm_20 m_20 =>
  ∃ x_17 x_18 x_19, rm_20 = (.agg #[(.int .i64 x_17), (.int .i64 x_18), (.int .i64 x_19)]) ∧
  stL m_20 t4 0 [(.int .i64 x_17), (.int .i64 x_18), (.int .i64 x_19)] fun m_21 =>
  Kt .ret [(0, (ptr k0 0)), (1, (.slice flat1a flat1l flat1c)), (4, (ptr t4 0)), (5, (.int .i64 at5)), (6, (.int .i64 n6))] m_21) m_16)
  (ldInt .i64 m_16 b_8 3 fun x_22 =>
  Kt .normal [(0, (ptr k0 0)), (1, (.slice flat1a flat1l flat1c)), (4, (ptr t4 0)), (5, (.int .i64 x_22)), (6, (.int .i64 (IntKind.wrap .i64 (n6 + 1))))] m_16)) m_10) m)
  (Kt (.exit 0) [(0, (ptr k0 0)), (1, (.slice flat1a flat1l flat1c)), (4, (ptr t4 0)), (5, (.int .i64 at5)), (6, (.int .i64 n6))] m)
theorem e40_1 {C : CallT} {k0 : Nat} {flat1a : Option Addr} {flat1l flat1c : Nat} {t4 : Nat} {at5 : Int} {n6 : Int} {Kt : Exit → Fr → Mem → Prop} {m : Mem} (h : s40_1 C k0 flat1a flat1l flat1c t4 at5 n6 Kt m) : evCode (cfgOf Tryz.prog pureF pureT C [(2, [0, 1, 4, 5, 6])] 40) (codeAt (bodyOf Tryz.prog 40) [1, 1, 0, 0, 0]) (trimK [0, 1, 4, 5, 6] Kt) [(0, (ptr k0 0)), (1, (.slice flat1a flat1l flat1c)), (4, (ptr t4 0)), (5, (.int .i64 at5)), (6, (.int .i64 n6))] m :=
  (show _ = _ by kernel_rfl : evCode (cfgOf Tryz.prog pureF pureT C [(2, [0, 1, 4, 5, 6])] 40) (codeAt (bodyOf Tryz.prog 40) [1, 1, 0, 0, 0]) (trimK [0, 1, 4, 5, 6] Kt) [(0, (ptr k0 0)), (1, (.slice flat1a flat1l flat1c)), (4, (ptr t4 0)), (5, (.int .i64 at5)), (6, (.int .i64 n6))] m = s40_1 C k0 flat1a flat1l flat1c t4 at5 n6 Kt m).symm ▸ h
def s40_1r (C : CallT) (k0 : Nat) (flat1a : Option Addr) (flat1l flat1c : Nat) (t4 : Nat) (at5 : Int) (n6 : Int) (K : Value → Mem → Prop) (m : Mem) : Prop :=
  ldInt .i64 m t4 0 fun x_23 =>
  ldInt .i64 m t4 1 fun x_24 =>
  ldInt .i64 m t4 2 fun x_25 =>
  K (.agg #[(.int .i64 x_23), (.int .i64 x_24), (.int .i64 x_25)]) m
theorem e40_1r {C : CallT} {kn : Fr → Mem → Prop} {k0 : Nat} {flat1a : Option Addr} {flat1l flat1c : Nat} {t4 : Nat} {at5 : Int} {n6 : Int} {K : Value → Mem → Prop} {m : Mem} : (andThenE kn (kAt (cfgOf Tryz.prog pureF pureT C [(2, [0, 1, 4, 5, 6])] 40) (bodyOf Tryz.prog 40) [1, 1, 0, 0] (endK Tryz.prog 40 K)) .ret [(0, (ptr k0 0)), (1, (.slice flat1a flat1l flat1c)), (4, (ptr t4 0)), (5, (.int .i64 at5)), (6, (.int .i64 n6))] m) = s40_1r C k0 flat1a flat1l flat1c t4 at5 n6 K m := by kernel_rfl
def s40_1x0 (C : CallT) (k0 : Nat) (flat1a : Option Addr) (flat1l flat1c : Nat) (t4 : Nat) (at5 : Int) (n6 : Int) (K : Value → Mem → Prop) (m : Mem) : Prop :=
  ldInt .i64 m k0 130 fun x_26 =>
  ifB (x_26 == 0)
  (C 36 [(.int .i64 20), (.int .i64 2), (.int .i64 n6)] (fun rm_30 m_30 =>
  ∃ x_27 x_28 x_29, rm_30 = (.agg #[(.int .i64 x_27), (.int .i64 x_28), (.int .i64 x_29)]) ∧
  stL m_30 t4 0 [(.int .i64 x_27), (.int .i64 x_28), (.int .i64 x_29)] fun m_31 =>
  ldInt .i64 m_31 t4 0 fun x_32 =>
  ldInt .i64 m_31 t4 1 fun x_33 =>
  ldInt .i64 m_31 t4 2 fun x_34 =>
  K (.agg #[(.int .i64 x_32), (.int .i64 x_33), (.int .i64 x_34)]) m_31) m)
  (stL m t4 0 [(.int .i64 0), (.int .i64 0), (.int .i64 0)] fun m_35 =>
  ldInt .i64 m_35 t4 0 fun x_36 =>
  ldInt .i64 m_35 t4 1 fun x_37 =>
  ldInt .i64 m_35 t4 2 fun x_38 =>
  K (.agg #[(.int .i64 x_36), (.int .i64 x_37), (.int .i64 x_38)]) m_35)
theorem e40_1x0 {C : CallT} {kn : Fr → Mem → Prop} {k0 : Nat} {flat1a : Option Addr} {flat1l flat1c : Nat} {t4 : Nat} {at5 : Int} {n6 : Int} {K : Value → Mem → Prop} {m : Mem} : (andThenE kn (kAt (cfgOf Tryz.prog pureF pureT C [(2, [0, 1, 4, 5, 6])] 40) (bodyOf Tryz.prog 40) [1, 1, 0, 0] (endK Tryz.prog 40 K)) (.exit 0) [(0, (ptr k0 0)), (1, (.slice flat1a flat1l flat1c)), (4, (ptr t4 0)), (5, (.int .i64 at5)), (6, (.int .i64 n6))] m) = s40_1x0 C k0 flat1a flat1l flat1c t4 at5 n6 K m := by kernel_rfl
def F40_1 (k0 : Nat) (flat1a : Option Addr) (flat1l flat1c : Nat) (t4 : Nat) (at5 : Int) (n6 : Int) : Fr := [(0, (ptr k0 0)), (1, (.slice flat1a flat1l flat1c)), (4, (ptr t4 0)), (5, (.int .i64 at5)), (6, (.int .i64 n6))]
theorem loop40_1 {C : CallT} {γ : Type} {k0 : Nat} {flat1a : Option Addr} {flat1l flat1c : Nat} {t4 : Nat} {K : Value → Mem → Prop} {m : Mem} (J : γ → Int → Int → Mem → Prop) (μ : γ → Int → Int → Nat) (g : γ) {at5 : Int} {n6 : Int} (hJ : J g at5 n6 m)
    (hs : ∀ g at5 n6 m, J g at5 n6 m → s40_1 C k0 flat1a flat1l flat1c t4 at5 n6 (andThenE (fun fr m' => ∃ g' at5' n6', fr = F40_1 k0 flat1a flat1l flat1c t4 at5' n6' ∧ J g' at5' n6' m' ∧ μ g' at5' n6' < μ g at5 n6) (kAt (cfgOf Tryz.prog pureF pureT C [(2, [0, 1, 4, 5, 6])] 40) (bodyOf Tryz.prog 40) [1, 1, 0, 0] (endK Tryz.prog 40 K))) m) :
    loopE [0, 1, 4, 5, 6] (evCode (cfgOf Tryz.prog pureF pureT C [(2, [0, 1, 4, 5, 6])] 40) (codeAt (bodyOf Tryz.prog 40) [1, 1, 0, 0, 0])) (kAt (cfgOf Tryz.prog pureF pureT C [(2, [0, 1, 4, 5, 6])] 40) (bodyOf Tryz.prog 40) [1, 1, 0, 0] (endK Tryz.prog 40 K)) [(0, (ptr k0 0)), (1, (.slice flat1a flat1l flat1c)), (4, (ptr t4 0)), (5, (.int .i64 at5)), (6, (.int .i64 n6))] m := by
  refine loop_rule (σ := γ × Int × Int) (fun s => F40_1 k0 flat1a flat1l flat1c t4 s.2.1 s.2.2) (fun s m => J s.1 s.2.1 s.2.2 m) (fun s => μ s.1 s.2.1 s.2.2) (g, at5, n6) rfl hJ ?_
  intro s m hJ
  have h := hs s.1 s.2.1 s.2.2 m hJ
  refine e40_1 ?_
  refine Eq.mp (congrArg (fun B => s40_1 C k0 flat1a flat1l flat1c t4 s.2.1 s.2.2 (andThenE B (kAt (cfgOf Tryz.prog pureF pureT C [(2, [0, 1, 4, 5, 6])] 40) (bodyOf Tryz.prog 40) [1, 1, 0, 0] (endK Tryz.prog 40 K))) m) ?_) h
  funext fr m'
  apply propext
  constructor
  · rintro ⟨g', at5', n6', h1, h2, h3⟩
    exact ⟨(g', at5', n6'), h1, h2, h3⟩
  · rintro ⟨⟨g', at5', n6'⟩, h1, h2, h3⟩
    exact ⟨g', at5', n6', h1, h2, h3⟩

def s41 (C : CallT) (a0_0 : Int) (a0_1 : Int) (a0_2 : Bool) (a0_3a : Option Addr) (a0_3l a0_3c : Nat) (a0_4 : ByteArray) (a0_5 : Int) (a0_6 : Int) (c1_0 : Int) (c1_1 : Int) (c1_2 : Bool) (c1_3a : Option Addr) (c1_3l c1_3c : Nat) (c1_4 : ByteArray) (c1_5 : Int) (c1_6 : Int) (K : Value → Mem → Prop) (m : Mem) : Prop :=
  allocB m (Blk.ofList [(.int .i64 a0_0), (.int .i64 a0_1), (.bool a0_2), (.slice a0_3a a0_3l a0_3c), (.string a0_4), (.int .i64 a0_5), (.int .i64 a0_6)]) fun b_1 m_2 =>
  allocB m_2 (Blk.ofList [(.int .i64 c1_0), (.int .i64 c1_1), (.bool c1_2), (.slice c1_3a c1_3l c1_3c), (.string c1_4), (.int .i64 c1_5), (.int .i64 c1_6)]) fun b_3 m_4 =>
  ldInt .i64 m_4 b_1 0 fun x_5 =>
  ldInt .i64 m_4 b_3 0 fun x_6 =>
  ifB (x_5 != x_6)
  (K (.bool false) m_4)
  (ldInt .i64 m_4 b_1 1 fun x_7 =>
  ldInt .i64 m_4 b_3 1 fun x_8 =>
  ifB (x_7 != x_8)
  (K (.bool false) m_4)
  (ldBool m_4 b_1 2 fun y_9 =>
  ldBool m_4 b_3 2 fun y_10 =>
  ifB (!(y_9 == y_10))
  (K (.bool false) m_4)
  (ldStr m_4 b_1 4 fun s_11 =>
  ldStr m_4 b_3 4 fun s_12 =>
  ifB (!(ByteArray.toList s_11 == ByteArray.toList s_12))
  (K (.bool false) m_4)
  (ldInt .i64 m_4 b_1 5 fun x_13 =>
  ldInt .i64 m_4 b_3 5 fun x_14 =>
  ifB (x_13 != x_14)
  (K (.bool false) m_4)
  (ldInt .i64 m_4 b_1 6 fun x_15 =>
  ldInt .i64 m_4 b_3 6 fun x_16 =>
  ifB (x_15 != x_16)
  (K (.bool false) m_4)
  (ldSl m_4 b_1 3 fun l_17a l_17l l_17c =>
  ldSl m_4 b_3 3 fun l_18a l_18l l_18c =>
  C 18 [(.slice l_17a l_17l l_17c), (.slice l_18a l_18l l_18c)] (fun rm_20 m_20 =>
  ∃ x_19, rm_20 = (.bool x_19) ∧
  K (.bool x_19) m_20) m_4))))))
theorem e41 (C : CallT) (a0_0 : Int) (a0_1 : Int) (a0_2 : Bool) (a0_3a : Option Addr) (a0_3l a0_3c : Nat) (a0_4 : ByteArray) (a0_5 : Int) (a0_6 : Int) (c1_0 : Int) (c1_1 : Int) (c1_2 : Bool) (c1_3a : Option Addr) (c1_3l c1_3c : Nat) (c1_4 : ByteArray) (c1_5 : Int) (c1_6 : Int) (K : Value → Mem → Prop) (m : Mem) : evFn Tryz.prog pureF pureT C [] 41 [(.agg #[(.int .i64 a0_0), (.int .i64 a0_1), (.bool a0_2), (.slice a0_3a a0_3l a0_3c), (.string a0_4), (.int .i64 a0_5), (.int .i64 a0_6)]), (.agg #[(.int .i64 c1_0), (.int .i64 c1_1), (.bool c1_2), (.slice c1_3a c1_3l c1_3c), (.string c1_4), (.int .i64 c1_5), (.int .i64 c1_6)])] K m = s41 C a0_0 a0_1 a0_2 a0_3a a0_3l a0_3c a0_4 a0_5 a0_6 c1_0 c1_1 c1_2 c1_3a c1_3l c1_3c c1_4 c1_5 c1_6 K m := by kernel_rfl
theorem call41 {W0 : World} {a0_0 : Int} {a0_1 : Int} {a0_2 : Bool} {a0_3a : Option Addr} {a0_3l a0_3c : Nat} {a0_4 : ByteArray} {a0_5 : Int} {a0_6 : Int} {c1_0 : Int} {c1_1 : Int} {c1_2 : Bool} {c1_3a : Option Addr} {c1_3l c1_3c : Nat} {c1_4 : ByteArray} {c1_5 : Int} {c1_6 : Int} {K : Value → Mem → Prop} {m : Mem} (h : s41 (callOK Tryz.prog W0) a0_0 a0_1 a0_2 a0_3a a0_3l a0_3c a0_4 a0_5 a0_6 c1_0 c1_1 c1_2 c1_3a c1_3l c1_3c c1_4 c1_5 c1_6 K m) : callOK Tryz.prog W0 41 [(.agg #[(.int .i64 a0_0), (.int .i64 a0_1), (.bool a0_2), (.slice a0_3a a0_3l a0_3c), (.string a0_4), (.int .i64 a0_5), (.int .i64 a0_6)]), (.agg #[(.int .i64 c1_0), (.int .i64 c1_1), (.bool c1_2), (.slice c1_3a c1_3l c1_3c), (.string c1_4), (.int .i64 c1_5), (.int .i64 c1_6)])] K m :=
  evFn_sound pureOk mixedP (fun w => Tryz.call41 _ w) ((e41 (callOK Tryz.prog W0) a0_0 a0_1 a0_2 a0_3a a0_3l a0_3c a0_4 a0_5 a0_6 c1_0 c1_1 c1_2 c1_3a c1_3l c1_3c c1_4 c1_5 c1_6 K m).symm ▸ h)

def s42 (C : CallT) (x0 : Nat) (text1 : ByteArray) (a2_0 : Int) (a2_1 : Int) (a2_2 : Bool) (a2_3a : Option Addr) (a2_3l a2_3c : Nat) (a2_4 : ByteArray) (a2_5 : Int) (a2_6 : Int) (K : Value → Mem → Prop) (m : Mem) : Prop :=
  allocB m (Blk.ofList [(.int .i64 a2_0), (.int .i64 a2_1), (.bool a2_2), (.slice a2_3a a2_3l a2_3c), (.string a2_4), (.int .i64 a2_5), (.int .i64 a2_6)]) fun b_1 m_2 =>
  C 44 [(.bool true)] (fun rm_4 m_4 =>
  ∃ x_3, rm_4 = (.pointer x_3) ∧
  ckP x_3 fun b_5 o_5 =>
  ldPtr m_4 b_5 (o_5 + 1) fun p_6 =>
  C 72 [(.pointer p_6), (.string text1)] (fun rm_14 m_14 =>
  ∃ x_7 x_8 x_9 x_10a x_10l x_10c x_11 x_12 x_13, rm_14 = (.agg #[(.int .i64 x_7), (.int .i64 x_8), (.bool x_9), (.slice x_10a x_10l x_10c), (.string x_11), (.int .i64 x_12), (.int .i64 x_13)]) ∧
  allocB m_14 (zeroBlk Tryz.prog 39) fun b_15 m_16 =>
  stL m_16 b_15 0 [(.int .i64 x_7), (.int .i64 x_8), (.bool x_9), (.slice x_10a x_10l x_10c), (.string x_11), (.int .i64 x_12), (.int .i64 x_13)] fun m_17 =>
  ldInt .i64 m_17 b_1 0 fun x_18 =>
  ldInt .i64 m_17 b_15 0 fun x_19 =>
  ifB (x_18 != x_19)
  (K (.bool false) m_17)
  (ldInt .i64 m_17 b_1 1 fun x_20 =>
  ldInt .i64 m_17 b_15 1 fun x_21 =>
  ifB (x_20 != x_21)
  (K (.bool false) m_17)
  (ldBool m_17 b_1 2 fun y_22 =>
  ldBool m_17 b_15 2 fun y_23 =>
  ifB (!(y_22 == y_23))
  (K (.bool false) m_17)
  (ldInt .i64 m_17 b_1 0 fun x_24 =>
  ifB (x_24 != 0)
  (ldSl m_17 b_1 3 fun l_25a l_25l l_25c =>
  ifB (Option.isNone l_25a)
  (ldStr m_17 b_1 4 fun s_26 =>
  ifB (ByteArray.toList s_26 == ByteArray.toList (ByteArray.mk #[]))
  (ldInt .i64 m_17 b_1 5 fun x_27 =>
  ifB (x_27 == 0)
  (ldInt .i64 m_17 b_1 6 fun x_28 =>
  K (.bool (x_28 == 0)) m_17)
  (K (.bool false) m_17))
  (K (.bool false) m_17))
  (K (.bool false) m_17))
  (ckP x_3 fun b_29 o_29 =>
  ldPtr m_17 b_29 (o_29 + 2) fun p_30 =>
  C 73 [(.pointer p_30), (.string text1)] (fun rm_34 m_34 =>
  ∃ x_31a x_31l x_31c x_32 x_33, rm_34 = (.tuple #[(.slice x_31a x_31l x_31c), (.int .i64 x_32), (.int .i64 x_33)]) ∧
  ldInt .i64 m_34 b_1 0 fun x_35 =>
  ldInt .i64 m_34 b_1 1 fun x_36 =>
  ldBool m_34 b_1 2 fun y_37 =>
  ldSl m_34 b_1 3 fun l_38a l_38l l_38c =>
  ldStr m_34 b_1 4 fun s_39 =>
  ldInt .i64 m_34 b_1 5 fun x_40 =>
  ldInt .i64 m_34 b_1 6 fun x_41 =>
  C 74 [(.agg #[(.int .i64 x_35), (.int .i64 x_36), (.bool y_37), (.slice l_38a l_38l l_38c), (.string s_39), (.int .i64 x_40), (.int .i64 x_41)])] (fun rm_43 m_43 =>
  ∃ x_42, rm_43 = (.bool x_42) ∧
  ifB (!x_42)
  (K (.bool false) m_43)
  (ldInt .i64 m_43 b_1 0 fun x_44 =>
  ldInt .i64 m_43 b_1 1 fun x_45 =>
  ldBool m_43 b_1 2 fun y_46 =>
  ldSl m_43 b_1 3 fun l_47a l_47l l_47c =>
  ldStr m_43 b_1 4 fun s_48 =>
  ldInt .i64 m_43 b_1 5 fun x_49 =>
  ldInt .i64 m_43 b_1 6 fun x_50 =>
  C 75 [(ptr x0 0), (.slice x_31a x_31l x_31c), (.agg #[(.int .i64 x_44), (.int .i64 x_45), (.bool y_46), (.slice l_47a l_47l l_47c), (.string s_48), (.int .i64 x_49), (.int .i64 x_50)])] (fun rm_52 m_52 =>
  ∃ x_51, rm_52 = (.bool x_51) ∧
  ifB (!x_51)
  (K (.bool false) m_52)
  (ldBool m_52 b_1 2 fun y_53 =>
  ifB y_53
  (ldSl m_52 b_1 3 fun l_54a l_54l l_54c =>
  C 76 [(.slice l_54a l_54l l_54c)] (fun rm_57 m_57 =>
  ∃ x_55 x_56, rm_57 = (.tuple #[(.int .i64 x_55), (.bool x_56)]) ∧
  ifB (!x_56)
  (K (.bool false) m_57)
  (ldStr m_57 b_1 4 fun s_58 =>
  ifB (!(ByteArray.toList s_58 == ByteArray.toList (ByteArray.mk #[])))
  (K (.bool false) m_57)
  (C 77 [(.slice x_31a x_31l x_31c), (.int .i64 x_55)] (fun rm_60 m_60 =>
  ∃ x_59, rm_60 = (.bool x_59) ∧
  ifB (!x_59)
  (K (.bool false) m_60)
  (C 78 [(ptr x0 0)] (fun rm_62 m_62 =>
  ∃ x_61a x_61l x_61c, rm_62 = (.slice x_61a x_61l x_61c) ∧
  ldInt .i64 m_62 b_1 5 fun x_63 =>
  ifB (decide ((IntKind.wrap .i64 (((x_61l : Nat) : Int) - ((x_31l : Nat) : Int))) > x_63))
  (K (.bool false) m_62)
  (loopE [6, 9, 14, 15] (evCode (cfgOf Tryz.prog pureF pureT C [(18, [6, 9, 14, 15]), (36, [0, 5, 6, 9, 21, 22])] 42) (codeAt (bodyOf Tryz.prog 42) [1, 1, 1, 1, 1, 1, 1, 0, 1, 0, 1, 1, 1, 1, 0, 1, 0, 0])) (kAt (cfgOf Tryz.prog pureF pureT C [(18, [6, 9, 14, 15]), (36, [0, 5, 6, 9, 21, 22])] 42) (bodyOf Tryz.prog 42) [1, 1, 1, 1, 1, 1, 1, 0, 1, 0, 1, 1, 1, 1, 0, 1, 0] (endK Tryz.prog 42 K)) [(6, (.bool false)), (9, (.slice x_31a x_31l x_31c)), (14, (.slice x_61a x_61l x_61c)), (15, (.int .i64 ((x_31l : Nat) : Int)))] m_62)) m_60)) m_57))) m_52)
  (ldSl m_52 b_1 3 fun l_64a l_64l l_64c =>
  ifB (!(Option.isNone l_64a))
  (K (.bool false) m_52)
  (ldStr m_52 b_1 4 fun s_65 =>
  C 45 [(.pointer x_3), (ptr x0 0), (.string text1), (.string s_65)] (fun rm_70 m_70 =>
  ∃ x_66 x_67 x_68 x_69, rm_70 = (.tuple #[(.agg #[(.int .i64 x_66), (.int .i64 x_67), (.int .i64 x_68)]), (.bool x_69)]) ∧
  allocB m_70 (zeroBlk Tryz.prog 41) fun b_71 m_72 =>
  stL m_72 b_71 0 [(.int .i64 x_66), (.int .i64 x_67), (.int .i64 x_68)] fun m_73 =>
  ifB (!x_69)
  (K (.bool false) m_73)
  (ldInt .i64 m_73 b_71 0 fun x_74 =>
  ifB (x_74 != 0)
  (K (.bool false) m_73)
  (ckP x_3 fun b_75 o_75 =>
  ldPtr m_73 b_75 (o_75 + 2) fun p_76 =>
  ldStr m_73 b_1 4 fun s_77 =>
  (C 80 [(.pointer p_76), (.string s_77)] (fun rm_81 m_81 =>
  ∃ x_78 x_79 x_80a x_80l x_80c, rm_81 = (.agg #[(.int .i64 x_78), (.int .i64 x_79), (.slice x_80a x_80l x_80c)]) ∧
  allocB m_81 (zeroBlk Tryz.prog 73) fun b_82 m_83 =>
  stL m_83 b_82 0 [(.int .i64 x_78), (.int .i64 x_79), (.slice x_80a x_80l x_80c)] fun m_84 =>
  ckP x_3 fun b_85 o_85 =>
  ldPtr m_84 b_85 (o_85 + 2) fun p_86 =>
  ldSl m_84 b_82 2 fun l_87a l_87l l_87c =>
  C 81 [(.pointer p_86), (.slice l_87a l_87l l_87c)] (fun rm_90 m_90 =>
  ∃ x_88 x_89, rm_90 = (.tuple #[(.string x_88), (.int .i64 x_89)]) ∧
  ifB (x_89 != 0)
  (K (.bool false) m_90)
  (ldStr m_90 b_1 4 fun s_91 =>
  ifB (!(ByteArray.toList x_88 == ByteArray.toList s_91))
  (K (.bool false) m_90)
  (ldSl m_90 b_82 2 fun l_92a l_92l l_92c =>
  C 82 [(.slice l_92a l_92l l_92c)] (fun rm_94 m_94 =>
  ∃ x_93a x_93l x_93c, rm_94 = (.slice x_93a x_93l x_93c) ∧
  ifB (((x_93l : Nat) : Int) == 0)
  (K (.bool false) m_94)
  (ckP x_93a fun b_95 o_95 =>
  ckI (IntKind.wrap .i64 (((x_93l : Nat) : Int) - 1)) x_93l fun j_96 =>
  ldBool m_94 b_95 (o_95 + (j_96 * 2)) fun y_97 =>
  ifB y_97
  (K (.bool false) m_94)
  (ckP x_93a fun b_98 o_98 =>
  ckI (IntKind.wrap .i64 (((x_93l : Nat) : Int) - 1)) x_93l fun j_99 =>
  ldSl m_94 b_98 ((o_98 + (j_99 * 2)) + 1) fun l_100a l_100l l_100c =>
  ifB (((l_100l : Nat) : Int) != 0)
  (K (.bool false) m_94)
  (loopE [0, 5, 6, 9, 21, 22] (evCode (cfgOf Tryz.prog pureF pureT C [(18, [6, 9, 14, 15]), (36, [0, 5, 6, 9, 21, 22])] 42) (codeAt (bodyOf Tryz.prog 42) [1, 1, 1, 1, 1, 1, 1, 1, 1, 1, 1, 1, 1, 1, 1, 1, 0, 1, 0, 0])) (kAt (cfgOf Tryz.prog pureF pureT C [(18, [6, 9, 14, 15]), (36, [0, 5, 6, 9, 21, 22])] 42) (bodyOf Tryz.prog 42) [1, 1, 1, 1, 1, 1, 1, 1, 1, 1, 1, 1, 1, 1, 1, 1, 0, 1, 0] (endK Tryz.prog 42 K)) [(0, (ptr x0 0)), (5, (ptr b_1 0)), (6, (.bool false)), (9, (.slice x_31a x_31l x_31c)), (21, (.slice x_93a x_93l x_93c)), (22, (.int .i64 0))] m_94)))) m_90))) m_84) m_73) ∧
  (allocB m_73 (zeroBlk Tryz.prog 73) fun b_101 m_102 =>
  C 80 [(.pointer p_76), (.string s_77)] (fun rm_106 m_106 =>
  ∃ x_103 x_104 x_105a x_105l x_105c, rm_106 = (.agg #[(.int .i64 x_103), (.int .i64 x_104), (.slice x_105a x_105l x_105c)]) ∧
  stL m_106 b_101 0 [(.int .i64 x_103), (.int .i64 x_104), (.slice x_105a x_105l x_105c)] fun m_107 =>
  ckP x_3 fun b_108 o_108 =>
  ldPtr m_107 b_108 (o_108 + 2) fun p_109 =>
  ldSl m_107 b_101 2 fun l_110a l_110l l_110c =>
  C 81 [(.pointer p_109), (.slice l_110a l_110l l_110c)] (fun rm_113 m_113 =>
  ∃ x_111 x_112, rm_113 = (.tuple #[(.string x_111), (.int .i64 x_112)]) ∧
  ifB (x_112 != 0)
  (K (.bool false) m_113)
  (ldStr m_113 b_1 4 fun s_114 =>
  ifB (!(ByteArray.toList x_111 == ByteArray.toList s_114))
  (K (.bool false) m_113)
  (ldSl m_113 b_101 2 fun l_115a l_115l l_115c =>
  C 82 [(.slice l_115a l_115l l_115c)] (fun rm_117 m_117 =>
  ∃ x_116a x_116l x_116c, rm_117 = (.slice x_116a x_116l x_116c) ∧
  ifB (((x_116l : Nat) : Int) == 0)
  (K (.bool false) m_117)
  (ckP x_116a fun b_118 o_118 =>
  ckI (IntKind.wrap .i64 (((x_116l : Nat) : Int) - 1)) x_116l fun j_119 =>
  ldBool m_117 b_118 (o_118 + (j_119 * 2)) fun y_120 =>
  ifB y_120
  (K (.bool false) m_117)
  (ckP x_116a fun b_121 o_121 =>
  ckI (IntKind.wrap .i64 (((x_116l : Nat) : Int) - 1)) x_116l fun j_122 =>
  ldSl m_117 b_121 ((o_121 + (j_122 * 2)) + 1) fun l_123a l_123l l_123c =>
  ifB (((l_123l : Nat) : Int) != 0)
  (K (.bool false) m_117)
  (loopE [0, 5, 6, 9, 21, 22] (evCode (cfgOf Tryz.prog pureF pureT C [(18, [6, 9, 14, 15]), (36, [0, 5, 6, 9, 21, 22])] 42) (codeAt (bodyOf Tryz.prog 42) [1, 1, 1, 1, 1, 1, 1, 1, 1, 1, 1, 1, 1, 1, 1, 1, 0, 1, 0, 0])) (kAt (cfgOf Tryz.prog pureF pureT C [(18, [6, 9, 14, 15]), (36, [0, 5, 6, 9, 21, 22])] 42) (bodyOf Tryz.prog 42) [1, 1, 1, 1, 1, 1, 1, 1, 1, 1, 1, 1, 1, 1, 1, 1, 0, 1, 0] (endK Tryz.prog 42 K)) [(0, (ptr x0 0)), (5, (ptr b_1 0)), (6, (.bool false)), (9, (.slice x_31a x_31l x_31c)), (21, (.slice x_116a x_116l x_116c)), (22, (.int .i64 0))] m_117)))) m_113))) m_107) m_102) ∧
  True))) m_52)))) m_43)) m_34) m_17))))) m_4) m_2
theorem e42 (C : CallT) (x0 : Nat) (text1 : ByteArray) (a2_0 : Int) (a2_1 : Int) (a2_2 : Bool) (a2_3a : Option Addr) (a2_3l a2_3c : Nat) (a2_4 : ByteArray) (a2_5 : Int) (a2_6 : Int) (K : Value → Mem → Prop) (m : Mem) : evFn Tryz.prog pureF pureT C [(18, [6, 9, 14, 15]), (36, [0, 5, 6, 9, 21, 22])] 42 [(ptr x0 0), (.string text1), (.agg #[(.int .i64 a2_0), (.int .i64 a2_1), (.bool a2_2), (.slice a2_3a a2_3l a2_3c), (.string a2_4), (.int .i64 a2_5), (.int .i64 a2_6)])] K m = s42 C x0 text1 a2_0 a2_1 a2_2 a2_3a a2_3l a2_3c a2_4 a2_5 a2_6 K m := by kernel_rfl
theorem call42 {W0 : World} {x0 : Nat} {text1 : ByteArray} {a2_0 : Int} {a2_1 : Int} {a2_2 : Bool} {a2_3a : Option Addr} {a2_3l a2_3c : Nat} {a2_4 : ByteArray} {a2_5 : Int} {a2_6 : Int} {K : Value → Mem → Prop} {m : Mem} (h : s42 (callOK Tryz.prog W0) x0 text1 a2_0 a2_1 a2_2 a2_3a a2_3l a2_3c a2_4 a2_5 a2_6 K m) : callOK Tryz.prog W0 42 [(ptr x0 0), (.string text1), (.agg #[(.int .i64 a2_0), (.int .i64 a2_1), (.bool a2_2), (.slice a2_3a a2_3l a2_3c), (.string a2_4), (.int .i64 a2_5), (.int .i64 a2_6)])] K m :=
  evFn_sound pureOk mixedP (fun w => Tryz.call42 _ w) ((e42 (callOK Tryz.prog W0) x0 text1 a2_0 a2_1 a2_2 a2_3a a2_3l a2_3c a2_4 a2_5 a2_6 K m).symm ▸ h)
def s42_1 (C : CallT) (t6 : Bool) (rows9a : Option Addr) (rows9l rows9c : Nat) (all14a : Option Addr) (all14l all14c : Nat) (i15 : Int) (Kt : Exit → Fr → Mem → Prop) (m : Mem) : Prop :=
  ifB (decide (i15 < ((all14l : Nat) : Int)))
  (ckP all14a fun b_124 o_124 =>
  ckI i15 all14l fun j_125 =>
  ldSl m b_124 (o_124 + j_125) fun l_126a l_126l l_126c =>
  ifB (((l_126l : Nat) : Int) == 0)
  (Kt .ret [(6, (.bool false)), (9, (.slice rows9a rows9l rows9c)), (14, (.slice all14a all14l all14c)), (15, (.int .i64 i15))] m)
  (ckP all14a fun b_127 o_127 =>
  ckI i15 all14l fun j_128 =>
  ldSl m b_127 (o_127 + j_128) fun l_129a l_129l l_129c =>
  C 79 [(.slice rows9a rows9l rows9c), (.slice l_129a l_129l l_129c)] (fun rm_131 m_131 =>
  ∃ x_130, rm_131 = (.bool x_130) ∧
  ifB (!x_130)
  (Kt .ret [(6, (.bool false)), (9, (.slice rows9a rows9l rows9c)), (14, (.slice all14a all14l all14c)), (15, (.int .i64 i15))] m_131)
  (Kt .normal [(6, (.bool t6)), (9, (.slice rows9a rows9l rows9c)), (14, (.slice all14a all14l all14c)), (15, (.int .i64 (IntKind.wrap .i64 (i15 + 1))))] m_131)) m))
  (Kt (.exit 0) [(6, (.bool t6)), (9, (.slice rows9a rows9l rows9c)), (14, (.slice all14a all14l all14c)), (15, (.int .i64 i15))] m)
theorem e42_1 {C : CallT} {t6 : Bool} {rows9a : Option Addr} {rows9l rows9c : Nat} {all14a : Option Addr} {all14l all14c : Nat} {i15 : Int} {Kt : Exit → Fr → Mem → Prop} {m : Mem} (h : s42_1 C t6 rows9a rows9l rows9c all14a all14l all14c i15 Kt m) : evCode (cfgOf Tryz.prog pureF pureT C [(18, [6, 9, 14, 15]), (36, [0, 5, 6, 9, 21, 22])] 42) (codeAt (bodyOf Tryz.prog 42) [1, 1, 1, 1, 1, 1, 1, 0, 1, 0, 1, 1, 1, 1, 0, 1, 0, 0]) (trimK [6, 9, 14, 15] Kt) [(6, (.bool t6)), (9, (.slice rows9a rows9l rows9c)), (14, (.slice all14a all14l all14c)), (15, (.int .i64 i15))] m :=
  (show _ = _ by kernel_rfl : evCode (cfgOf Tryz.prog pureF pureT C [(18, [6, 9, 14, 15]), (36, [0, 5, 6, 9, 21, 22])] 42) (codeAt (bodyOf Tryz.prog 42) [1, 1, 1, 1, 1, 1, 1, 0, 1, 0, 1, 1, 1, 1, 0, 1, 0, 0]) (trimK [6, 9, 14, 15] Kt) [(6, (.bool t6)), (9, (.slice rows9a rows9l rows9c)), (14, (.slice all14a all14l all14c)), (15, (.int .i64 i15))] m = s42_1 C t6 rows9a rows9l rows9c all14a all14l all14c i15 Kt m).symm ▸ h
def s42_1r (C : CallT) (t6 : Bool) (rows9a : Option Addr) (rows9l rows9c : Nat) (all14a : Option Addr) (all14l all14c : Nat) (i15 : Int) (K : Value → Mem → Prop) (m : Mem) : Prop :=
  K (.bool t6) m
theorem e42_1r {C : CallT} {kn : Fr → Mem → Prop} {t6 : Bool} {rows9a : Option Addr} {rows9l rows9c : Nat} {all14a : Option Addr} {all14l all14c : Nat} {i15 : Int} {K : Value → Mem → Prop} {m : Mem} : (andThenE kn (kAt (cfgOf Tryz.prog pureF pureT C [(18, [6, 9, 14, 15]), (36, [0, 5, 6, 9, 21, 22])] 42) (bodyOf Tryz.prog 42) [1, 1, 1, 1, 1, 1, 1, 0, 1, 0, 1, 1, 1, 1, 0, 1, 0] (endK Tryz.prog 42 K)) .ret [(6, (.bool t6)), (9, (.slice rows9a rows9l rows9c)), (14, (.slice all14a all14l all14c)), (15, (.int .i64 i15))] m) = s42_1r C t6 rows9a rows9l rows9c all14a all14l all14c i15 K m := by kernel_rfl
def s42_1x0 (C : CallT) (t6 : Bool) (rows9a : Option Addr) (rows9l rows9c : Nat) (all14a : Option Addr) (all14l all14c : Nat) (i15 : Int) (K : Value → Mem → Prop) (m : Mem) : Prop :=
  K (.bool true) m
theorem e42_1x0 {C : CallT} {kn : Fr → Mem → Prop} {t6 : Bool} {rows9a : Option Addr} {rows9l rows9c : Nat} {all14a : Option Addr} {all14l all14c : Nat} {i15 : Int} {K : Value → Mem → Prop} {m : Mem} : (andThenE kn (kAt (cfgOf Tryz.prog pureF pureT C [(18, [6, 9, 14, 15]), (36, [0, 5, 6, 9, 21, 22])] 42) (bodyOf Tryz.prog 42) [1, 1, 1, 1, 1, 1, 1, 0, 1, 0, 1, 1, 1, 1, 0, 1, 0] (endK Tryz.prog 42 K)) (.exit 0) [(6, (.bool t6)), (9, (.slice rows9a rows9l rows9c)), (14, (.slice all14a all14l all14c)), (15, (.int .i64 i15))] m) = s42_1x0 C t6 rows9a rows9l rows9c all14a all14l all14c i15 K m := by kernel_rfl
def s42_2 (C : CallT) (x0 : Nat) (a5 : Nat) (t6 : Bool) (rows9a : Option Addr) (rows9l rows9c : Nat) (steps21a : Option Addr) (steps21l steps21c : Nat) (i22 : Int) (Kt : Exit → Fr → Mem → Prop) (m : Mem) : Prop :=
  ifB (decide (i22 < (IntKind.wrap .i64 (((steps21l : Nat) : Int) - 1))))
  (ckP steps21a fun b_132 o_132 =>
  ckI i22 steps21l fun j_133 =>
  ldSl m b_132 ((o_132 + (j_133 * 2)) + 1) fun l_134a l_134l l_134c =>
  ifB (((l_134l : Nat) : Int) == 0)
  (Kt .ret [(0, (ptr x0 0)), (5, (ptr a5 0)), (6, (.bool false)), (9, (.slice rows9a rows9l rows9c)), (21, (.slice steps21a steps21l steps21c)), (22, (.int .i64 i22))] m)
  (Kt .normal [(0, (ptr x0 0)), (5, (ptr a5 0)), (6, (.bool t6)), (9, (.slice rows9a rows9l rows9c)), (21, (.slice steps21a steps21l steps21c)), (22, (.int .i64 (IntKind.wrap .i64 (i22 + 1))))] m))
  (Kt (.exit 2) [(0, (ptr x0 0)), (5, (ptr a5 0)), (6, (.bool t6)), (9, (.slice rows9a rows9l rows9c)), (21, (.slice steps21a steps21l steps21c)), (22, (.int .i64 i22))] m)
theorem e42_2 {C : CallT} {x0 : Nat} {a5 : Nat} {t6 : Bool} {rows9a : Option Addr} {rows9l rows9c : Nat} {steps21a : Option Addr} {steps21l steps21c : Nat} {i22 : Int} {Kt : Exit → Fr → Mem → Prop} {m : Mem} (h : s42_2 C x0 a5 t6 rows9a rows9l rows9c steps21a steps21l steps21c i22 Kt m) : evCode (cfgOf Tryz.prog pureF pureT C [(18, [6, 9, 14, 15]), (36, [0, 5, 6, 9, 21, 22])] 42) (codeAt (bodyOf Tryz.prog 42) [1, 1, 1, 1, 1, 1, 1, 1, 1, 1, 1, 1, 1, 1, 1, 1, 0, 1, 0, 0]) (trimK [0, 5, 6, 9, 21, 22] Kt) [(0, (ptr x0 0)), (5, (ptr a5 0)), (6, (.bool t6)), (9, (.slice rows9a rows9l rows9c)), (21, (.slice steps21a steps21l steps21c)), (22, (.int .i64 i22))] m :=
  (show _ = _ by kernel_rfl : evCode (cfgOf Tryz.prog pureF pureT C [(18, [6, 9, 14, 15]), (36, [0, 5, 6, 9, 21, 22])] 42) (codeAt (bodyOf Tryz.prog 42) [1, 1, 1, 1, 1, 1, 1, 1, 1, 1, 1, 1, 1, 1, 1, 1, 0, 1, 0, 0]) (trimK [0, 5, 6, 9, 21, 22] Kt) [(0, (ptr x0 0)), (5, (ptr a5 0)), (6, (.bool t6)), (9, (.slice rows9a rows9l rows9c)), (21, (.slice steps21a steps21l steps21c)), (22, (.int .i64 i22))] m = s42_2 C x0 a5 t6 rows9a rows9l rows9c steps21a steps21l steps21c i22 Kt m).symm ▸ h
def s42_2r (C : CallT) (x0 : Nat) (a5 : Nat) (t6 : Bool) (rows9a : Option Addr) (rows9l rows9c : Nat) (steps21a : Option Addr) (steps21l steps21c : Nat) (i22 : Int) (K : Value → Mem → Prop) (m : Mem) : Prop :=
  K (.bool t6) m
theorem e42_2r {C : CallT} {kn : Fr → Mem → Prop} {x0 : Nat} {a5 : Nat} {t6 : Bool} {rows9a : Option Addr} {rows9l rows9c : Nat} {steps21a : Option Addr} {steps21l steps21c : Nat} {i22 : Int} {K : Value → Mem → Prop} {m : Mem} : (andThenE kn (kAt (cfgOf Tryz.prog pureF pureT C [(18, [6, 9, 14, 15]), (36, [0, 5, 6, 9, 21, 22])] 42) (bodyOf Tryz.prog 42) [1, 1, 1, 1, 1, 1, 1, 1, 1, 1, 1, 1, 1, 1, 1, 1, 0, 1, 0] (endK Tryz.prog 42 K)) .ret [(0, (ptr x0 0)), (5, (ptr a5 0)), (6, (.bool t6)), (9, (.slice rows9a rows9l rows9c)), (21, (.slice steps21a steps21l steps21c)), (22, (.int .i64 i22))] m) = s42_2r C x0 a5 t6 rows9a rows9l rows9c steps21a steps21l steps21c i22 K m := by kernel_rfl
def s42_2x2 (C : CallT) (x0 : Nat) (a5 : Nat) (t6 : Bool) (rows9a : Option Addr) (rows9l rows9c : Nat) (steps21a : Option Addr) (steps21l steps21c : Nat) (i22 : Int) (K : Value → Mem → Prop) (m : Mem) : Prop :=
  C 78 [(ptr x0 0)] (fun rm_136 m_136 =>
  ∃ x_135a x_135l x_135c, rm_136 = (.slice x_135a x_135l x_135c) ∧
  (C 83 [(.slice steps21a steps21l steps21c)] (fun rm_138 m_138 =>
  ∃ x_137, rm_138 = (.int .i64 x_137) ∧
  ldInt .i64 m_138 a5 5 fun x_139 =>
  ifB (x_137 == x_139)
  (C 84 [(.slice rows9a rows9l rows9c), (.slice steps21a steps21l steps21c), (.slice x_135a x_135l x_135c)] (fun rm_141 m_141 =>
  ∃ x_140, rm_141 = (.bool x_140) ∧
  K (.bool x_140) m_141) m_138)
  (K (.bool false) m_138)) m_136) ∧
  (ldInt .i64 m_136 a5 5 fun x_142 =>
  C 83 [(.slice steps21a steps21l steps21c)] (fun rm_144 m_144 =>
  ∃ x_143, rm_144 = (.int .i64 x_143) ∧
  ifB (x_143 == x_142)
  (C 84 [(.slice rows9a rows9l rows9c), (.slice steps21a steps21l steps21c), (.slice x_135a x_135l x_135c)] (fun rm_146 m_146 =>
  ∃ x_145, rm_146 = (.bool x_145) ∧
  K (.bool x_145) m_146) m_144)
  (K (.bool false) m_144)) m_136) ∧
  True) m
theorem e42_2x2 {C : CallT} {kn : Fr → Mem → Prop} {x0 : Nat} {a5 : Nat} {t6 : Bool} {rows9a : Option Addr} {rows9l rows9c : Nat} {steps21a : Option Addr} {steps21l steps21c : Nat} {i22 : Int} {K : Value → Mem → Prop} {m : Mem} : (andThenE kn (kAt (cfgOf Tryz.prog pureF pureT C [(18, [6, 9, 14, 15]), (36, [0, 5, 6, 9, 21, 22])] 42) (bodyOf Tryz.prog 42) [1, 1, 1, 1, 1, 1, 1, 1, 1, 1, 1, 1, 1, 1, 1, 1, 0, 1, 0] (endK Tryz.prog 42 K)) (.exit 2) [(0, (ptr x0 0)), (5, (ptr a5 0)), (6, (.bool t6)), (9, (.slice rows9a rows9l rows9c)), (21, (.slice steps21a steps21l steps21c)), (22, (.int .i64 i22))] m) = s42_2x2 C x0 a5 t6 rows9a rows9l rows9c steps21a steps21l steps21c i22 K m := by kernel_rfl
def F42_1 (t6 : Bool) (rows9a : Option Addr) (rows9l rows9c : Nat) (all14a : Option Addr) (all14l all14c : Nat) (i15 : Int) : Fr := [(6, (.bool t6)), (9, (.slice rows9a rows9l rows9c)), (14, (.slice all14a all14l all14c)), (15, (.int .i64 i15))]
theorem loop42_1 {C : CallT} {γ : Type} {rows9a : Option Addr} {rows9l rows9c : Nat} {all14a : Option Addr} {all14l all14c : Nat} {K : Value → Mem → Prop} {m : Mem} (J : γ → Bool → Int → Mem → Prop) (μ : γ → Bool → Int → Nat) (g : γ) {t6 : Bool} {i15 : Int} (hJ : J g t6 i15 m)
    (hs : ∀ g t6 i15 m, J g t6 i15 m → s42_1 C t6 rows9a rows9l rows9c all14a all14l all14c i15 (andThenE (fun fr m' => ∃ g' t6' i15', fr = F42_1 t6' rows9a rows9l rows9c all14a all14l all14c i15' ∧ J g' t6' i15' m' ∧ μ g' t6' i15' < μ g t6 i15) (kAt (cfgOf Tryz.prog pureF pureT C [(18, [6, 9, 14, 15]), (36, [0, 5, 6, 9, 21, 22])] 42) (bodyOf Tryz.prog 42) [1, 1, 1, 1, 1, 1, 1, 0, 1, 0, 1, 1, 1, 1, 0, 1, 0] (endK Tryz.prog 42 K))) m) :
    loopE [6, 9, 14, 15] (evCode (cfgOf Tryz.prog pureF pureT C [(18, [6, 9, 14, 15]), (36, [0, 5, 6, 9, 21, 22])] 42) (codeAt (bodyOf Tryz.prog 42) [1, 1, 1, 1, 1, 1, 1, 0, 1, 0, 1, 1, 1, 1, 0, 1, 0, 0])) (kAt (cfgOf Tryz.prog pureF pureT C [(18, [6, 9, 14, 15]), (36, [0, 5, 6, 9, 21, 22])] 42) (bodyOf Tryz.prog 42) [1, 1, 1, 1, 1, 1, 1, 0, 1, 0, 1, 1, 1, 1, 0, 1, 0] (endK Tryz.prog 42 K)) [(6, (.bool t6)), (9, (.slice rows9a rows9l rows9c)), (14, (.slice all14a all14l all14c)), (15, (.int .i64 i15))] m := by
  refine loop_rule (σ := γ × Bool × Int) (fun s => F42_1 s.2.1 rows9a rows9l rows9c all14a all14l all14c s.2.2) (fun s m => J s.1 s.2.1 s.2.2 m) (fun s => μ s.1 s.2.1 s.2.2) (g, t6, i15) rfl hJ ?_
  intro s m hJ
  have h := hs s.1 s.2.1 s.2.2 m hJ
  refine e42_1 ?_
  refine Eq.mp (congrArg (fun B => s42_1 C s.2.1 rows9a rows9l rows9c all14a all14l all14c s.2.2 (andThenE B (kAt (cfgOf Tryz.prog pureF pureT C [(18, [6, 9, 14, 15]), (36, [0, 5, 6, 9, 21, 22])] 42) (bodyOf Tryz.prog 42) [1, 1, 1, 1, 1, 1, 1, 0, 1, 0, 1, 1, 1, 1, 0, 1, 0] (endK Tryz.prog 42 K))) m) ?_) h
  funext fr m'
  apply propext
  constructor
  · rintro ⟨g', t6', i15', h1, h2, h3⟩
    exact ⟨(g', t6', i15'), h1, h2, h3⟩
  · rintro ⟨⟨g', t6', i15'⟩, h1, h2, h3⟩
    exact ⟨g', t6', i15', h1, h2, h3⟩
def F42_2 (x0 : Nat) (a5 : Nat) (t6 : Bool) (rows9a : Option Addr) (rows9l rows9c : Nat) (steps21a : Option Addr) (steps21l steps21c : Nat) (i22 : Int) : Fr := [(0, (ptr x0 0)), (5, (ptr a5 0)), (6, (.bool t6)), (9, (.slice rows9a rows9l rows9c)), (21, (.slice steps21a steps21l steps21c)), (22, (.int .i64 i22))]
theorem loop42_2 {C : CallT} {γ : Type} {x0 : Nat} {a5 : Nat} {rows9a : Option Addr} {rows9l rows9c : Nat} {steps21a : Option Addr} {steps21l steps21c : Nat} {K : Value → Mem → Prop} {m : Mem} (J : γ → Bool → Int → Mem → Prop) (μ : γ → Bool → Int → Nat) (g : γ) {t6 : Bool} {i22 : Int} (hJ : J g t6 i22 m)
    (hs : ∀ g t6 i22 m, J g t6 i22 m → s42_2 C x0 a5 t6 rows9a rows9l rows9c steps21a steps21l steps21c i22 (andThenE (fun fr m' => ∃ g' t6' i22', fr = F42_2 x0 a5 t6' rows9a rows9l rows9c steps21a steps21l steps21c i22' ∧ J g' t6' i22' m' ∧ μ g' t6' i22' < μ g t6 i22) (kAt (cfgOf Tryz.prog pureF pureT C [(18, [6, 9, 14, 15]), (36, [0, 5, 6, 9, 21, 22])] 42) (bodyOf Tryz.prog 42) [1, 1, 1, 1, 1, 1, 1, 1, 1, 1, 1, 1, 1, 1, 1, 1, 0, 1, 0] (endK Tryz.prog 42 K))) m) :
    loopE [0, 5, 6, 9, 21, 22] (evCode (cfgOf Tryz.prog pureF pureT C [(18, [6, 9, 14, 15]), (36, [0, 5, 6, 9, 21, 22])] 42) (codeAt (bodyOf Tryz.prog 42) [1, 1, 1, 1, 1, 1, 1, 1, 1, 1, 1, 1, 1, 1, 1, 1, 0, 1, 0, 0])) (kAt (cfgOf Tryz.prog pureF pureT C [(18, [6, 9, 14, 15]), (36, [0, 5, 6, 9, 21, 22])] 42) (bodyOf Tryz.prog 42) [1, 1, 1, 1, 1, 1, 1, 1, 1, 1, 1, 1, 1, 1, 1, 1, 0, 1, 0] (endK Tryz.prog 42 K)) [(0, (ptr x0 0)), (5, (ptr a5 0)), (6, (.bool t6)), (9, (.slice rows9a rows9l rows9c)), (21, (.slice steps21a steps21l steps21c)), (22, (.int .i64 i22))] m := by
  refine loop_rule (σ := γ × Bool × Int) (fun s => F42_2 x0 a5 s.2.1 rows9a rows9l rows9c steps21a steps21l steps21c s.2.2) (fun s m => J s.1 s.2.1 s.2.2 m) (fun s => μ s.1 s.2.1 s.2.2) (g, t6, i22) rfl hJ ?_
  intro s m hJ
  have h := hs s.1 s.2.1 s.2.2 m hJ
  refine e42_2 ?_
  refine Eq.mp (congrArg (fun B => s42_2 C x0 a5 s.2.1 rows9a rows9l rows9c steps21a steps21l steps21c s.2.2 (andThenE B (kAt (cfgOf Tryz.prog pureF pureT C [(18, [6, 9, 14, 15]), (36, [0, 5, 6, 9, 21, 22])] 42) (bodyOf Tryz.prog 42) [1, 1, 1, 1, 1, 1, 1, 1, 1, 1, 1, 1, 1, 1, 1, 1, 0, 1, 0] (endK Tryz.prog 42 K))) m) ?_) h
  funext fr m'
  apply propext
  constructor
  · rintro ⟨g', t6', i22', h1, h2, h3⟩
    exact ⟨(g', t6', i22'), h1, h2, h3⟩
  · rintro ⟨⟨g', t6', i22'⟩, h1, h2, h3⟩
    exact ⟨g', t6', i22', h1, h2, h3⟩

def s43 (C : CallT) (w0 : Nat) (l1a : Option Addr) (l1l l1c : Nat) (K : Value → Mem → Prop) (m : Mem) : Prop :=
  ifB (!(Option.isNone l1a))
  (ckLe ((l1c : Nat) : Int) l1c fun n_1 =>
  mkSlice m [(.int .i64 0)] 8 (((n_1 - 0) : Nat) : Int) (((n_1 - 0) : Nat) : Int) fun b_2 m_3 =>
  rdRow m_3 (slA l1a 0 l1c 1) ((Nat.min (n_1 - 0) (Int.toNat (((n_1 - 0) : Nat) : Int))) * 1) fun r_5 =>
  copyP m_3 (some ⟨b_2, 0, none⟩) r_5 fun m_4 =>
  ldSl m_4 w0 2 fun l_6a l_6l l_6c =>
  allocB m_4 (Blk.ofList [(.slice (slA l1a 0 l1c 1) (n_1 - 0) (l1c - 0)), (.slice (some ⟨b_2, 0, none⟩) (Int.toNat (((n_1 - 0) : Nat) : Int)) (Int.toNat (((n_1 - 0) : Nat) : Int)))]) fun b_7 m_8 =>
  rdRow m_8 (some ⟨b_7, 0, none⟩) (1 * 2) fun r_11 =>
  appendC m_8 2 48 [(.slice none 0 0), (.slice none 0 0)] l_6a l_6l l_6c 1 r_11 fun a_9 c_9 m_10 =>
  st m_10 w0 2 (.slice a_9 (l_6l + 1) c_9) fun m_12 =>
  K (.tuple #[]) m_12)
  (K (.tuple #[]) m)
theorem e43 (C : CallT) (w0 : Nat) (l1a : Option Addr) (l1l l1c : Nat) (K : Value → Mem → Prop) (m : Mem) : evFn Tryz.prog pureF pureT C [] 43 [(ptr w0 0), (.slice l1a l1l l1c)] K m = s43 C w0 l1a l1l l1c K m := by kernel_rfl
theorem call43 {W0 : World} {w0 : Nat} {l1a : Option Addr} {l1l l1c : Nat} {K : Value → Mem → Prop} {m : Mem} (h : s43 (callOK Tryz.prog W0) w0 l1a l1l l1c K m) : callOK Tryz.prog W0 43 [(ptr w0 0), (.slice l1a l1l l1c)] K m :=
  evFn_sound pureOk mixedP (fun w => Tryz.call43 _ w) ((e43 (callOK Tryz.prog W0) w0 l1a l1l l1c K m).symm ▸ h)

def s44 (C : CallT) (quiet0 : Bool) (K : Value → Mem → Prop) (m : Mem) : Prop :=
  allocB m (Blk.ofList [(.pointer none), (.pointer none), (.pointer none), (.pointer none), (.string (ByteArray.mk #[])), (.string (ByteArray.mk #[])), (.string (ByteArray.mk #[])), (.string (ByteArray.mk #[])), (.slice none 0 0), (.bool quiet0)]) fun b_1 m_2 =>
  C 9 [] (fun rm_4 m_4 =>
  ∃ x_3, rm_4 = (.pointer x_3) ∧
  st m_4 b_1 0 (.pointer x_3) fun m_5 =>
  C 85 [] (fun rm_7 m_7 =>
  ∃ x_6, rm_7 = (.pointer x_6) ∧
  st m_7 b_1 1 (.pointer x_6) fun m_8 =>
  C 86 [] (fun rm_10 m_10 =>
  ∃ x_9, rm_10 = (.pointer x_9) ∧
  st m_10 b_1 2 (.pointer x_9) fun m_11 =>
  ldPtr m_11 b_1 2 fun p_12 =>
  C 87 [(.pointer p_12)] (fun rm_14 m_14 =>
  ∃ x_13, rm_14 = (.pointer x_13) ∧
  st m_14 b_1 3 (.pointer x_13) fun m_15 =>
  K (ptr b_1 0) m_15) m_11) m_8) m_5) m_2
theorem e44 (C : CallT) (quiet0 : Bool) (K : Value → Mem → Prop) (m : Mem) : evFn Tryz.prog pureF pureT C [] 44 [(.bool quiet0)] K m = s44 C quiet0 K m := by kernel_rfl
theorem call44 {W0 : World} {quiet0 : Bool} {K : Value → Mem → Prop} {m : Mem} (h : s44 (callOK Tryz.prog W0) quiet0 K m) : callOK Tryz.prog W0 44 [(.bool quiet0)] K m :=
  evFn_sound pureOk mixedP (fun w => Tryz.call44 _ w) ((e44 (callOK Tryz.prog W0) quiet0 K m).symm ▸ h)

def s45 (C : CallT) (w0 : Nat) (x1 : Nat) (problem2 : ByteArray) (proof3 : ByteArray) (K : Value → Mem → Prop) (m : Mem) : Prop :=
  allocB m (zeroBlk Tryz.prog 41) fun b_1 m_2 =>
  ldPtr m_2 x1 6 fun p_3 =>
  C 12 [(.pointer p_3), (.string problem2), (.string proof3)] (fun rm_7 m_7 =>
  ∃ x_4 x_5 x_6, rm_7 = (.agg #[(.int .i64 x_4), (.int .i64 x_5), (.int .i64 x_6)]) ∧
  allocB m_7 (zeroBlk Tryz.prog 41) fun b_8 m_9 =>
  stL m_9 b_8 0 [(.int .i64 x_4), (.int .i64 x_5), (.int .i64 x_6)] fun m_10 =>
  ldPtr m_10 w0 3 fun p_11 =>
  C 88 [(.pointer p_11), (.string problem2), (.string proof3)] (fun rm_15 m_15 =>
  ∃ x_12 x_13 x_14, rm_15 = (.agg #[(.int .i64 x_12), (.int .i64 x_13), (.int .i64 x_14)]) ∧
  allocB m_15 (zeroBlk Tryz.prog 41) fun b_16 m_17 =>
  stL m_17 b_16 0 [(.int .i64 x_12), (.int .i64 x_13), (.int .i64 x_14)] fun m_18 =>
  ldInt .i64 m_18 b_8 0 fun x_19 =>
  ldInt .i64 m_18 b_16 0 fun x_20 =>
  ifB (x_19 != x_20)
  (ldInt .i64 m_18 b_8 0 fun x_21 =>
  ldInt .i64 m_18 b_8 1 fun x_22 =>
  ldInt .i64 m_18 b_8 2 fun x_23 =>
  stL m_18 b_1 0 [(.int .i64 x_21), (.int .i64 x_22), (.int .i64 x_23)] fun m_24 =>
  ldInt .i64 m_24 b_1 0 fun x_25 =>
  ldInt .i64 m_24 b_1 1 fun x_26 =>
  ldInt .i64 m_24 b_1 2 fun x_27 =>
  K (.tuple #[(.agg #[(.int .i64 x_25), (.int .i64 x_26), (.int .i64 x_27)]), (.bool false)]) m_24)
  (ldInt .i64 m_18 b_8 1 fun x_28 =>
  ldInt .i64 m_18 b_16 1 fun x_29 =>
  ifB (x_28 != x_29)
  (ldInt .i64 m_18 b_8 0 fun x_30 =>
  ldInt .i64 m_18 b_8 1 fun x_31 =>
  ldInt .i64 m_18 b_8 2 fun x_32 =>
  stL m_18 b_1 0 [(.int .i64 x_30), (.int .i64 x_31), (.int .i64 x_32)] fun m_33 =>
  ldInt .i64 m_33 b_1 0 fun x_34 =>
  ldInt .i64 m_33 b_1 1 fun x_35 =>
  ldInt .i64 m_33 b_1 2 fun x_36 =>
  K (.tuple #[(.agg #[(.int .i64 x_34), (.int .i64 x_35), (.int .i64 x_36)]), (.bool false)]) m_33)
  (ldInt .i64 m_18 b_8 2 fun x_37 =>
  ldInt .i64 m_18 b_16 2 fun x_38 =>
  ifB (x_37 != x_38)
  (ldInt .i64 m_18 b_8 0 fun x_39 =>
  ldInt .i64 m_18 b_8 1 fun x_40 =>
  ldInt .i64 m_18 b_8 2 fun x_41 =>
  stL m_18 b_1 0 [(.int .i64 x_39), (.int .i64 x_40), (.int .i64 x_41)] fun m_42 =>
  ldInt .i64 m_42 b_1 0 fun x_43 =>
  ldInt .i64 m_42 b_1 1 fun x_44 =>
  ldInt .i64 m_42 b_1 2 fun x_45 =>
  K (.tuple #[(.agg #[(.int .i64 x_43), (.int .i64 x_44), (.int .i64 x_45)]), (.bool false)]) m_42)
  (ldInt .i64 m_18 b_8 0 fun x_46 =>
  ifB (x_46 == 0)
  (ldPtr m_18 w0 2 fun p_47 =>
  C 73 [(.pointer p_47), (.string problem2)] (fun rm_51 m_51 =>
  ∃ x_48a x_48l x_48c x_49 x_50, rm_51 = (.tuple #[(.slice x_48a x_48l x_48c), (.int .i64 x_49), (.int .i64 x_50)]) ∧
  C 89 [(.slice x_48a x_48l x_48c)] (fun rm_53 m_53 =>
  ∃ x_52, rm_53 = (.int .i64 x_52) ∧
  ifB (x_52 != (-1))
  (ldInt .i64 m_53 b_8 0 fun x_54 =>
  ldInt .i64 m_53 b_8 1 fun x_55 =>
  ldInt .i64 m_53 b_8 2 fun x_56 =>
  stL m_53 b_1 0 [(.int .i64 x_54), (.int .i64 x_55), (.int .i64 x_56)] fun m_57 =>
  ldInt .i64 m_57 b_1 0 fun x_58 =>
  ldInt .i64 m_57 b_1 1 fun x_59 =>
  ldInt .i64 m_57 b_1 2 fun x_60 =>
  K (.tuple #[(.agg #[(.int .i64 x_58), (.int .i64 x_59), (.int .i64 x_60)]), (.bool false)]) m_57)
  (ldInt .i64 m_53 b_8 0 fun x_61 =>
  ldInt .i64 m_53 b_8 1 fun x_62 =>
  ldInt .i64 m_53 b_8 2 fun x_63 =>
  stL m_53 b_1 0 [(.int .i64 x_61), (.int .i64 x_62), (.int .i64 x_63)] fun m_64 =>
  ldInt .i64 m_64 b_1 0 fun x_65 =>
  ldInt .i64 m_64 b_1 1 fun x_66 =>
  ldInt .i64 m_64 b_1 2 fun x_67 =>
  K (.tuple #[(.agg #[(.int .i64 x_65), (.int .i64 x_66), (.int .i64 x_67)]), (.bool true)]) m_64)) m_51) m_18)
  (ldInt .i64 m_18 b_8 0 fun x_68 =>
  ldInt .i64 m_18 b_8 1 fun x_69 =>
  ldInt .i64 m_18 b_8 2 fun x_70 =>
  stL m_18 b_1 0 [(.int .i64 x_68), (.int .i64 x_69), (.int .i64 x_70)] fun m_71 =>
  ldInt .i64 m_71 b_1 0 fun x_72 =>
  ldInt .i64 m_71 b_1 1 fun x_73 =>
  ldInt .i64 m_71 b_1 2 fun x_74 =>
  K (.tuple #[(.agg #[(.int .i64 x_72), (.int .i64 x_73), (.int .i64 x_74)]), (.bool true)]) m_71))))) m_10) m_2
theorem e45 (C : CallT) (w0 : Nat) (x1 : Nat) (problem2 : ByteArray) (proof3 : ByteArray) (K : Value → Mem → Prop) (m : Mem) : evFn Tryz.prog pureF pureT C [] 45 [(ptr w0 0), (ptr x1 0), (.string problem2), (.string proof3)] K m = s45 C w0 x1 problem2 proof3 K m := by kernel_rfl
theorem call45 {W0 : World} {w0 : Nat} {x1 : Nat} {problem2 : ByteArray} {proof3 : ByteArray} {K : Value → Mem → Prop} {m : Mem} (h : s45 (callOK Tryz.prog W0) w0 x1 problem2 proof3 K m) : callOK Tryz.prog W0 45 [(ptr w0 0), (ptr x1 0), (.string problem2), (.string proof3)] K m :=
  evFn_sound pureOk mixedP (fun w => Tryz.call45 _ w) ((e45 (callOK Tryz.prog W0) w0 x1 problem2 proof3 K m).symm ▸ h)

def s46 (C : CallT) (w0 : Nat) (id1 : Int) (K : Value → Mem → Prop) (m : Mem) : Prop :=
  C 90 [(ptr w0 0), (.int .i64 id1)] (fun rm_2 m_2 =>
  ∃ x_1, rm_2 = (.bool x_1) ∧
  ifB (!x_1)
  (K (.tuple #[(.slice none 0 0), (.int .i64 13)]) m_2)
  (ckI id1 52 fun j_3 =>
  ldInt .i64 m_2 w0 (625 + j_3) fun x_4 =>
  ifB (x_4 == 0)
  (K (.tuple #[(.slice none 0 0), (.int .i64 0)]) m_2)
  (loopE [0, 6, 7, 8, 9, 10] (evCode (cfgOf Tryz.prog pureF pureT C [(9, [0, 6, 7, 8, 9, 10]), (18, [8, 9, 12, 13, 14])] 46) (codeAt (bodyOf Tryz.prog 46) [1, 1, 1, 1, 1, 1, 0, 1, 0, 0])) (kAt (cfgOf Tryz.prog pureF pureT C [(9, [0, 6, 7, 8, 9, 10]), (18, [8, 9, 12, 13, 14])] 46) (bodyOf Tryz.prog 46) [1, 1, 1, 1, 1, 1, 0, 1, 0] (endK Tryz.prog 46 K)) [(0, (ptr w0 0)), (6, (.int .i64 x_4)), (7, (.int .i64 (IntKind.wrap .i64 (id1 * 12)))), (8, (.int .u16 0)), (9, (.int .u16 0)), (10, (.int .i64 0))] m_2))) m
theorem e46 (C : CallT) (w0 : Nat) (id1 : Int) (K : Value → Mem → Prop) (m : Mem) : evFn Tryz.prog pureF pureT C [(9, [0, 6, 7, 8, 9, 10]), (18, [8, 9, 12, 13, 14])] 46 [(ptr w0 0), (.int .i64 id1)] K m = s46 C w0 id1 K m := by kernel_rfl
theorem call46 {W0 : World} {w0 : Nat} {id1 : Int} {K : Value → Mem → Prop} {m : Mem} (h : s46 (callOK Tryz.prog W0) w0 id1 K m) : callOK Tryz.prog W0 46 [(ptr w0 0), (.int .i64 id1)] K m :=
  evFn_sound pureOk mixedP (fun w => Tryz.call46 _ w) ((e46 (callOK Tryz.prog W0) w0 id1 K m).symm ▸ h)
def s46_1 (C : CallT) (w0 : Nat) (n6 : Int) (base7 : Int) (pos8 : Int) (neg9 : Int) (i10 : Int) (Kt : Exit → Fr → Mem → Prop) (m : Mem) : Prop :=
  ifB (decide (i10 < n6))
  (ckI (IntKind.wrap .i64 (base7 + i10)) 624 fun j_5 =>
  ldInt .i64 m w0 (1 + j_5) fun x_6 =>
  ifB (decide (x_6 > 0))
  ((0 : Int) ≤ (IntKind.wrap .u64 x_6) ∧
  Kt .normal [(0, (ptr w0 0)), (6, (.int .i64 n6)), (7, (.int .i64 base7)), (8, (.int .u16 (bOr .u16 pos8 (shlV .u16 1 (IntKind.wrap .u64 x_6))))), (9, (.int .u16 neg9)), (10, (.int .i64 (IntKind.wrap .i64 (i10 + 1))))] m)
  ((0 : Int) ≤ (IntKind.wrap .u64 (IntKind.wrap .i64 (0 - x_6))) ∧
  Kt .normal [(0, (ptr w0 0)), (6, (.int .i64 n6)), (7, (.int .i64 base7)), (8, (.int .u16 pos8)), (9, (.int .u16 (bOr .u16 neg9 (shlV .u16 1 (IntKind.wrap .u64 (IntKind.wrap .i64 (0 - x_6))))))), (10, (.int .i64 (IntKind.wrap .i64 (i10 + 1))))] m))
  (Kt (.exit 0) [(0, (ptr w0 0)), (6, (.int .i64 n6)), (7, (.int .i64 base7)), (8, (.int .u16 pos8)), (9, (.int .u16 neg9)), (10, (.int .i64 i10))] m)
theorem e46_1 {C : CallT} {w0 : Nat} {n6 : Int} {base7 : Int} {pos8 : Int} {neg9 : Int} {i10 : Int} {Kt : Exit → Fr → Mem → Prop} {m : Mem} (h : s46_1 C w0 n6 base7 pos8 neg9 i10 Kt m) : evCode (cfgOf Tryz.prog pureF pureT C [(9, [0, 6, 7, 8, 9, 10]), (18, [8, 9, 12, 13, 14])] 46) (codeAt (bodyOf Tryz.prog 46) [1, 1, 1, 1, 1, 1, 0, 1, 0, 0]) (trimK [0, 6, 7, 8, 9, 10] Kt) [(0, (ptr w0 0)), (6, (.int .i64 n6)), (7, (.int .i64 base7)), (8, (.int .u16 pos8)), (9, (.int .u16 neg9)), (10, (.int .i64 i10))] m :=
  (show _ = _ by kernel_rfl : evCode (cfgOf Tryz.prog pureF pureT C [(9, [0, 6, 7, 8, 9, 10]), (18, [8, 9, 12, 13, 14])] 46) (codeAt (bodyOf Tryz.prog 46) [1, 1, 1, 1, 1, 1, 0, 1, 0, 0]) (trimK [0, 6, 7, 8, 9, 10] Kt) [(0, (ptr w0 0)), (6, (.int .i64 n6)), (7, (.int .i64 base7)), (8, (.int .u16 pos8)), (9, (.int .u16 neg9)), (10, (.int .i64 i10))] m = s46_1 C w0 n6 base7 pos8 neg9 i10 Kt m).symm ▸ h
def s46_1x0 (C : CallT) (w0 : Nat) (n6 : Int) (base7 : Int) (pos8 : Int) (neg9 : Int) (i10 : Int) (K : Value → Mem → Prop) (m : Mem) : Prop :=
  mkSlice m [(.int .i64 0)] 8 n6 n6 fun b_7 m_8 =>
  loopE [8, 9, 12, 13, 14] (evCode (cfgOf Tryz.prog pureF pureT C [(9, [0, 6, 7, 8, 9, 10]), (18, [8, 9, 12, 13, 14])] 46) (codeAt (bodyOf Tryz.prog 46) [1, 1, 1, 1, 1, 1, 1, 1, 1, 0, 1, 0, 0])) (kAt (cfgOf Tryz.prog pureF pureT C [(9, [0, 6, 7, 8, 9, 10]), (18, [8, 9, 12, 13, 14])] 46) (bodyOf Tryz.prog 46) [1, 1, 1, 1, 1, 1, 1, 1, 1, 0, 1, 0] (endK Tryz.prog 46 K)) [(8, (.int .u16 pos8)), (9, (.int .u16 neg9)), (12, (.slice (some ⟨b_7, 0, none⟩) (Int.toNat n6) (Int.toNat n6))), (13, (.int .i64 0)), (14, (.int .i64 1))] m_8
theorem e46_1x0 {C : CallT} {kn : Fr → Mem → Prop} {w0 : Nat} {n6 : Int} {base7 : Int} {pos8 : Int} {neg9 : Int} {i10 : Int} {K : Value → Mem → Prop} {m : Mem} : (andThenE kn (kAt (cfgOf Tryz.prog pureF pureT C [(9, [0, 6, 7, 8, 9, 10]), (18, [8, 9, 12, 13, 14])] 46) (bodyOf Tryz.prog 46) [1, 1, 1, 1, 1, 1, 0, 1, 0] (endK Tryz.prog 46 K)) (.exit 0) [(0, (ptr w0 0)), (6, (.int .i64 n6)), (7, (.int .i64 base7)), (8, (.int .u16 pos8)), (9, (.int .u16 neg9)), (10, (.int .i64 i10))] m) = s46_1x0 C w0 n6 base7 pos8 neg9 i10 K m := by kernel_rfl
def s46_2 (C : CallT) (pos8 : Int) (neg9 : Int) (out12a : Option Addr) (out12l out12c : Nat) (k13 : Int) (v14 : Int) (Kt : Exit → Fr → Mem → Prop) (m : Mem) : Prop :=
  ifB (decide (v14 ≤ 12))
  ((0 : Int) ≤ (IntKind.wrap .u64 v14) ∧
  ifB ((bAnd .u16 (shrV .u16 pos8 (IntKind.wrap .u64 v14)) 1) == 1)
  (ckP out12a fun b_9 o_9 =>
  ckI k13 out12l fun j_10 =>
  st m b_9 (o_9 + j_10) (.int .i64 v14) fun m_11 =>
  Kt .normal [(8, (.int .u16 pos8)), (9, (.int .u16 neg9)), (12, (.slice out12a out12l out12c)), (13, (.int .i64 (IntKind.wrap .i64 (k13 + 1)))), (14, (.int .i64 (IntKind.wrap .i64 (v14 + 1))))] m_11)
  ((0 : Int) ≤ (IntKind.wrap .u64 v14) ∧
  ifB ((bAnd .u16 (shrV .u16 neg9 (IntKind.wrap .u64 v14)) 1) == 1)
  (ckP out12a fun b_12 o_12 =>
  ckI k13 out12l fun j_13 =>
  st m b_12 (o_12 + j_13) (.int .i64 (IntKind.wrap .i64 (0 - v14))) fun m_14 =>
  Kt .normal [(8, (.int .u16 pos8)), (9, (.int .u16 neg9)), (12, (.slice out12a out12l out12c)), (13, (.int .i64 (IntKind.wrap .i64 (k13 + 1)))), (14, (.int .i64 (IntKind.wrap .i64 (v14 + 1))))] m_14)
  (Kt .normal [(8, (.int .u16 pos8)), (9, (.int .u16 neg9)), (12, (.slice out12a out12l out12c)), (13, (.int .i64 k13)), (14, (.int .i64 (IntKind.wrap .i64 (v14 + 1))))] m)))
  (Kt (.exit 2) [(8, (.int .u16 pos8)), (9, (.int .u16 neg9)), (12, (.slice out12a out12l out12c)), (13, (.int .i64 k13)), (14, (.int .i64 v14))] m)
theorem e46_2 {C : CallT} {pos8 : Int} {neg9 : Int} {out12a : Option Addr} {out12l out12c : Nat} {k13 : Int} {v14 : Int} {Kt : Exit → Fr → Mem → Prop} {m : Mem} (h : s46_2 C pos8 neg9 out12a out12l out12c k13 v14 Kt m) : evCode (cfgOf Tryz.prog pureF pureT C [(9, [0, 6, 7, 8, 9, 10]), (18, [8, 9, 12, 13, 14])] 46) (codeAt (bodyOf Tryz.prog 46) [1, 1, 1, 1, 1, 1, 1, 1, 1, 0, 1, 0, 0]) (trimK [8, 9, 12, 13, 14] Kt) [(8, (.int .u16 pos8)), (9, (.int .u16 neg9)), (12, (.slice out12a out12l out12c)), (13, (.int .i64 k13)), (14, (.int .i64 v14))] m :=
  (show _ = _ by kernel_rfl : evCode (cfgOf Tryz.prog pureF pureT C [(9, [0, 6, 7, 8, 9, 10]), (18, [8, 9, 12, 13, 14])] 46) (codeAt (bodyOf Tryz.prog 46) [1, 1, 1, 1, 1, 1, 1, 1, 1, 0, 1, 0, 0]) (trimK [8, 9, 12, 13, 14] Kt) [(8, (.int .u16 pos8)), (9, (.int .u16 neg9)), (12, (.slice out12a out12l out12c)), (13, (.int .i64 k13)), (14, (.int .i64 v14))] m = s46_2 C pos8 neg9 out12a out12l out12c k13 v14 Kt m).symm ▸ h
def s46_2x2 (C : CallT) (pos8 : Int) (neg9 : Int) (out12a : Option Addr) (out12l out12c : Nat) (k13 : Int) (v14 : Int) (K : Value → Mem → Prop) (m : Mem) : Prop :=
  K (.tuple #[(.slice out12a out12l out12c), (.int .i64 0)]) m
theorem e46_2x2 {C : CallT} {kn : Fr → Mem → Prop} {pos8 : Int} {neg9 : Int} {out12a : Option Addr} {out12l out12c : Nat} {k13 : Int} {v14 : Int} {K : Value → Mem → Prop} {m : Mem} : (andThenE kn (kAt (cfgOf Tryz.prog pureF pureT C [(9, [0, 6, 7, 8, 9, 10]), (18, [8, 9, 12, 13, 14])] 46) (bodyOf Tryz.prog 46) [1, 1, 1, 1, 1, 1, 1, 1, 1, 0, 1, 0] (endK Tryz.prog 46 K)) (.exit 2) [(8, (.int .u16 pos8)), (9, (.int .u16 neg9)), (12, (.slice out12a out12l out12c)), (13, (.int .i64 k13)), (14, (.int .i64 v14))] m) = s46_2x2 C pos8 neg9 out12a out12l out12c k13 v14 K m := by kernel_rfl
def F46_1 (w0 : Nat) (n6 : Int) (base7 : Int) (pos8 : Int) (neg9 : Int) (i10 : Int) : Fr := [(0, (ptr w0 0)), (6, (.int .i64 n6)), (7, (.int .i64 base7)), (8, (.int .u16 pos8)), (9, (.int .u16 neg9)), (10, (.int .i64 i10))]
theorem loop46_1 {C : CallT} {γ : Type} {w0 : Nat} {n6 : Int} {base7 : Int} {K : Value → Mem → Prop} {m : Mem} (J : γ → Int → Int → Int → Mem → Prop) (μ : γ → Int → Int → Int → Nat) (g : γ) {pos8 : Int} {neg9 : Int} {i10 : Int} (hJ : J g pos8 neg9 i10 m)
    (hs : ∀ g pos8 neg9 i10 m, J g pos8 neg9 i10 m → s46_1 C w0 n6 base7 pos8 neg9 i10 (andThenE (fun fr m' => ∃ g' pos8' neg9' i10', fr = F46_1 w0 n6 base7 pos8' neg9' i10' ∧ J g' pos8' neg9' i10' m' ∧ μ g' pos8' neg9' i10' < μ g pos8 neg9 i10) (kAt (cfgOf Tryz.prog pureF pureT C [(9, [0, 6, 7, 8, 9, 10]), (18, [8, 9, 12, 13, 14])] 46) (bodyOf Tryz.prog 46) [1, 1, 1, 1, 1, 1, 0, 1, 0] (endK Tryz.prog 46 K))) m) :
    loopE [0, 6, 7, 8, 9, 10] (evCode (cfgOf Tryz.prog pureF pureT C [(9, [0, 6, 7, 8, 9, 10]), (18, [8, 9, 12, 13, 14])] 46) (codeAt (bodyOf Tryz.prog 46) [1, 1, 1, 1, 1, 1, 0, 1, 0, 0])) (kAt (cfgOf Tryz.prog pureF pureT C [(9, [0, 6, 7, 8, 9, 10]), (18, [8, 9, 12, 13, 14])] 46) (bodyOf Tryz.prog 46) [1, 1, 1, 1, 1, 1, 0, 1, 0] (endK Tryz.prog 46 K)) [(0, (ptr w0 0)), (6, (.int .i64 n6)), (7, (.int .i64 base7)), (8, (.int .u16 pos8)), (9, (.int .u16 neg9)), (10, (.int .i64 i10))] m := by
  refine loop_rule (σ := γ × Int × Int × Int) (fun s => F46_1 w0 n6 base7 s.2.1 s.2.2.1 s.2.2.2) (fun s m => J s.1 s.2.1 s.2.2.1 s.2.2.2 m) (fun s => μ s.1 s.2.1 s.2.2.1 s.2.2.2) (g, pos8, neg9, i10) rfl hJ ?_
  intro s m hJ
  have h := hs s.1 s.2.1 s.2.2.1 s.2.2.2 m hJ
  refine e46_1 ?_
  refine Eq.mp (congrArg (fun B => s46_1 C w0 n6 base7 s.2.1 s.2.2.1 s.2.2.2 (andThenE B (kAt (cfgOf Tryz.prog pureF pureT C [(9, [0, 6, 7, 8, 9, 10]), (18, [8, 9, 12, 13, 14])] 46) (bodyOf Tryz.prog 46) [1, 1, 1, 1, 1, 1, 0, 1, 0] (endK Tryz.prog 46 K))) m) ?_) h
  funext fr m'
  apply propext
  constructor
  · rintro ⟨g', pos8', neg9', i10', h1, h2, h3⟩
    exact ⟨(g', pos8', neg9', i10'), h1, h2, h3⟩
  · rintro ⟨⟨g', pos8', neg9', i10'⟩, h1, h2, h3⟩
    exact ⟨g', pos8', neg9', i10', h1, h2, h3⟩
def F46_2 (pos8 : Int) (neg9 : Int) (out12a : Option Addr) (out12l out12c : Nat) (k13 : Int) (v14 : Int) : Fr := [(8, (.int .u16 pos8)), (9, (.int .u16 neg9)), (12, (.slice out12a out12l out12c)), (13, (.int .i64 k13)), (14, (.int .i64 v14))]
theorem loop46_2 {C : CallT} {γ : Type} {pos8 : Int} {neg9 : Int} {out12a : Option Addr} {out12l out12c : Nat} {K : Value → Mem → Prop} {m : Mem} (J : γ → Int → Int → Mem → Prop) (μ : γ → Int → Int → Nat) (g : γ) {k13 : Int} {v14 : Int} (hJ : J g k13 v14 m)
    (hs : ∀ g k13 v14 m, J g k13 v14 m → s46_2 C pos8 neg9 out12a out12l out12c k13 v14 (andThenE (fun fr m' => ∃ g' k13' v14', fr = F46_2 pos8 neg9 out12a out12l out12c k13' v14' ∧ J g' k13' v14' m' ∧ μ g' k13' v14' < μ g k13 v14) (kAt (cfgOf Tryz.prog pureF pureT C [(9, [0, 6, 7, 8, 9, 10]), (18, [8, 9, 12, 13, 14])] 46) (bodyOf Tryz.prog 46) [1, 1, 1, 1, 1, 1, 1, 1, 1, 0, 1, 0] (endK Tryz.prog 46 K))) m) :
    loopE [8, 9, 12, 13, 14] (evCode (cfgOf Tryz.prog pureF pureT C [(9, [0, 6, 7, 8, 9, 10]), (18, [8, 9, 12, 13, 14])] 46) (codeAt (bodyOf Tryz.prog 46) [1, 1, 1, 1, 1, 1, 1, 1, 1, 0, 1, 0, 0])) (kAt (cfgOf Tryz.prog pureF pureT C [(9, [0, 6, 7, 8, 9, 10]), (18, [8, 9, 12, 13, 14])] 46) (bodyOf Tryz.prog 46) [1, 1, 1, 1, 1, 1, 1, 1, 1, 0, 1, 0] (endK Tryz.prog 46 K)) [(8, (.int .u16 pos8)), (9, (.int .u16 neg9)), (12, (.slice out12a out12l out12c)), (13, (.int .i64 k13)), (14, (.int .i64 v14))] m := by
  refine loop_rule (σ := γ × Int × Int) (fun s => F46_2 pos8 neg9 out12a out12l out12c s.2.1 s.2.2) (fun s m => J s.1 s.2.1 s.2.2 m) (fun s => μ s.1 s.2.1 s.2.2) (g, k13, v14) rfl hJ ?_
  intro s m hJ
  have h := hs s.1 s.2.1 s.2.2 m hJ
  refine e46_2 ?_
  refine Eq.mp (congrArg (fun B => s46_2 C pos8 neg9 out12a out12l out12c s.2.1 s.2.2 (andThenE B (kAt (cfgOf Tryz.prog pureF pureT C [(9, [0, 6, 7, 8, 9, 10]), (18, [8, 9, 12, 13, 14])] 46) (bodyOf Tryz.prog 46) [1, 1, 1, 1, 1, 1, 1, 1, 1, 0, 1, 0] (endK Tryz.prog 46 K))) m) ?_) h
  funext fr m'
  apply propext
  constructor
  · rintro ⟨g', k13', v14', h1, h2, h3⟩
    exact ⟨(g', k13', v14'), h1, h2, h3⟩
  · rintro ⟨⟨g', k13', v14'⟩, h1, h2, h3⟩
    exact ⟨g', k13', v14', h1, h2, h3⟩

def s49 (C : CallT) (p0 : Nat) (K : Value → Mem → Prop) (m : Mem) : Prop :=
  ldSl m p0 0 fun l_1a l_1l l_1c =>
  ckLe 0 l_1c fun n_2 =>
  st m p0 0 (.slice (slA l_1a 0 l_1c 1) (n_2 - 0) (l_1c - 0)) fun m_3 =>
  st m_3 p0 1 (.int .i64 0) fun m_4 =>
  st m_4 p0 2 (.int .i64 0) fun m_5 =>
  st m_5 p0 3 (.bool false) fun m_6 =>
  st m_6 p0 4 (.int .i64 0) fun m_7 =>
  st m_7 p0 5 (.int .u16 0) fun m_8 =>
  st m_8 p0 6 (.int .u16 0) fun m_9 =>
  st m_9 p0 7 (.bool false) fun m_10 =>
  st m_10 p0 8 (.bool false) fun m_11 =>
  st m_11 p0 9 (.int .i64 0) fun m_12 =>
  st m_12 p0 10 (.int .i64 0) fun m_13 =>
  K (.tuple #[]) m_13
theorem e49 (C : CallT) (p0 : Nat) (K : Value → Mem → Prop) (m : Mem) : evFn Tryz.prog pureF pureT C [] 49 [(ptr p0 0)] K m = s49 C p0 K m := by kernel_rfl
theorem call49 {W0 : World} {p0 : Nat} {K : Value → Mem → Prop} {m : Mem} (h : s49 (callOK Tryz.prog W0) p0 K m) : callOK Tryz.prog W0 49 [(ptr p0 0)] K m :=
  evFn_sound pureOk mixedP (fun w => Tryz.call49 _ w) ((e49 (callOK Tryz.prog W0) p0 K m).symm ▸ h)

def s50 (C : CallT) (p0 : Nat) (c1 : Int) (i2 : Int) (K : Value → Mem → Prop) (m : Mem) : Prop :=
  ldInt .i64 m p0 1 fun x_1 =>
  ifB (x_1 == 0)
  (C 92 [(ptr p0 0), (.int .u8 c1), (.int .i64 (goClass c1)), (.int .i64 i2)] (fun rm_2 m_2 =>
  rm_2 = (.tuple #[]) ∧
  K (.tuple #[]) m_2) m)
  (ifB (x_1 == 1)
  (ifB (c1 == 10)
  (st m p0 1 (.int .i64 0) fun m_3 =>
  K (.tuple #[]) m_3)
  (K (.tuple #[]) m))
  (ifB (x_1 == 2)
  (ifB ((goClass c1) == 2)
  (st m p0 1 (.int .i64 3) fun m_4 =>
  st m_4 p0 4 (.int .i64 (IntKind.wrap .i64 (IntKind.wrap .u8 (c1 - 48)))) fun m_5 =>
  K (.tuple #[]) m_5)
  (ifB ((goClass c1) == 1)
  (ldInt .i64 m p0 2 fun x_6 =>
  C 51 [(ptr p0 0), (.int .i64 3), (.int .i64 x_6)] (fun rm_7 m_7 =>
  rm_7 = (.tuple #[]) ∧
  K (.tuple #[]) m_7) m)
  (C 51 [(ptr p0 0), (.int .i64 2), (.int .i64 i2)] (fun rm_8 m_8 =>
  rm_8 = (.tuple #[]) ∧
  K (.tuple #[]) m_8) m)))
  (ifB (x_1 == 3)
  (ifB ((goClass c1) == 2)
  (ldInt .i64 m p0 4 fun x_9 =>
  st m p0 4 (.int .i64 (IntKind.wrap .i64 ((IntKind.wrap .i64 (x_9 * 10)) + (IntKind.wrap .i64 (IntKind.wrap .u8 (c1 - 48)))))) fun m_10 =>
  ldInt .i64 m_10 p0 4 fun x_11 =>
  ifB (decide (x_11 > 12))
  (st m_10 p0 4 (.int .i64 13) fun m_12 =>
  K (.tuple #[]) m_12)
  (K (.tuple #[]) m_10))
  (ifB ((goClass c1) == 1)
  (st m p0 1 (.int .i64 0) fun m_13 =>
  C 93 [(ptr p0 0)] (fun rm_14 m_14 =>
  rm_14 = (.tuple #[]) ∧
  K (.tuple #[]) m_14) m_13)
  (C 51 [(ptr p0 0), (.int .i64 2), (.int .i64 i2)] (fun rm_15 m_15 =>
  rm_15 = (.tuple #[]) ∧
  K (.tuple #[]) m_15) m)))
  (ifB (x_1 == 4)
  (ifB ((goClass c1) == 1)
  (st m p0 1 (.int .i64 0) fun m_16 =>
  K (.tuple #[]) m_16)
  (C 51 [(ptr p0 0), (.int .i64 2), (.int .i64 i2)] (fun rm_17 m_17 =>
  rm_17 = (.tuple #[]) ∧
  K (.tuple #[]) m_17) m))
  (K (.tuple #[]) m)))))
theorem e50 (C : CallT) (p0 : Nat) (c1 : Int) (i2 : Int) (K : Value → Mem → Prop) (m : Mem) : evFn Tryz.prog pureF pureT C [] 50 [(ptr p0 0), (.int .u8 c1), (.int .i64 i2)] K m = s50 C p0 c1 i2 K m := by kernel_rfl
theorem call50 {W0 : World} {p0 : Nat} {c1 : Int} {i2 : Int} {K : Value → Mem → Prop} {m : Mem} (h : s50 (callOK Tryz.prog W0) p0 c1 i2 K m) : callOK Tryz.prog W0 50 [(ptr p0 0), (.int .u8 c1), (.int .i64 i2)] K m :=
  evFn_sound pureOk mixedP (fun w => Tryz.call50 _ w) ((e50 (callOK Tryz.prog W0) p0 c1 i2 K m).symm ▸ h)

def s51 (C : CallT) (p0 : Nat) (e1 : Int) (at2 : Int) (K : Value → Mem → Prop) (m : Mem) : Prop :=
  st m p0 9 (.int .i64 e1) fun m_1 =>
  st m_1 p0 10 (.int .i64 at2) fun m_2 =>
  K (.tuple #[]) m_2
theorem e51 (C : CallT) (p0 : Nat) (e1 : Int) (at2 : Int) (K : Value → Mem → Prop) (m : Mem) : evFn Tryz.prog pureF pureT C [] 51 [(ptr p0 0), (.int .i64 e1), (.int .i64 at2)] K m = s51 C p0 e1 at2 K m := by kernel_rfl
theorem call51 {W0 : World} {p0 : Nat} {e1 : Int} {at2 : Int} {K : Value → Mem → Prop} {m : Mem} (h : s51 (callOK Tryz.prog W0) p0 e1 at2 K m) : callOK Tryz.prog W0 51 [(ptr p0 0), (.int .i64 e1), (.int .i64 at2)] K m :=
  evFn_sound pureOk mixedP (fun w => Tryz.call51 _ w) ((e51 (callOK Tryz.prog W0) p0 e1 at2 K m).symm ▸ h)

def s52 (C : CallT) (l0a : Option Addr) (l0l l0c : Nat) (K : Value → Mem → Prop) (m : Mem) : Prop :=
  ifB (((l0l : Nat) : Int) == 0)
  (K (.slice none 0 0) m)
  (mkSlice m [(.int .i64 0)] 8 ((l0l : Nat) : Int) ((l0l : Nat) : Int) fun b_1 m_2 =>
  rdRow m_2 l0a ((Nat.min l0l (Int.toNat ((l0l : Nat) : Int))) * 1) fun r_4 =>
  copyP m_2 (some ⟨b_1, 0, none⟩) r_4 fun m_3 =>
  K (.slice (some ⟨b_1, 0, none⟩) (Int.toNat ((l0l : Nat) : Int)) (Int.toNat ((l0l : Nat) : Int))) m_3)
theorem e52 (C : CallT) (l0a : Option Addr) (l0l l0c : Nat) (K : Value → Mem → Prop) (m : Mem) : evFn Tryz.prog pureF pureT C [] 52 [(.slice l0a l0l l0c)] K m = s52 C l0a l0l l0c K m := by kernel_rfl
theorem call52 {W0 : World} {l0a : Option Addr} {l0l l0c : Nat} {K : Value → Mem → Prop} {m : Mem} (h : s52 (callOK Tryz.prog W0) l0a l0l l0c K m) : callOK Tryz.prog W0 52 [(.slice l0a l0l l0c)] K m :=
  evFn_sound pureOk mixedP (fun w => Tryz.call52 _ w) ((e52 (callOK Tryz.prog W0) l0a l0l l0c K m).symm ▸ h)

def s53 (C : CallT) (t0 : Nat) (K : Value → Mem → Prop) (m : Mem) : Prop :=
  C 94 [(ptr t0 0), (.int .i64 0)] (fun rm_1 m_1 =>
  rm_1 = (.tuple #[]) ∧
  st m_1 t0 14 (.int .i64 0) fun m_2 =>
  K (.tuple #[]) m_2) m
theorem e53 (C : CallT) (t0 : Nat) (K : Value → Mem → Prop) (m : Mem) : evFn Tryz.prog pureF pureT C [] 53 [(ptr t0 0)] K m = s53 C t0 K m := by kernel_rfl
theorem call53 {W0 : World} {t0 : Nat} {K : Value → Mem → Prop} {m : Mem} (h : s53 (callOK Tryz.prog W0) t0 K m) : callOK Tryz.prog W0 53 [(ptr t0 0)] K m :=
  evFn_sound pureOk mixedP (fun w => Tryz.call53 _ w) ((e53 (callOK Tryz.prog W0) t0 K m).symm ▸ h)

def s54 (C : CallT) (w0 : Nat) (K : Value → Mem → Prop) (m : Mem) : Prop :=
  st m w0 677 (.int .u64 0) fun m_1 =>
  st m_1 w0 678 (.int .u64 0) fun m_2 =>
  st m_2 w0 679 (.int .u64 0) fun m_3 =>
  st m_3 w0 706 (.int .i64 0) fun m_4 =>
  loopE [0, 2] (evCode (cfgOf Tryz.prog pureF pureT C [(5, [0, 2]), (9, [0, 3])] 54) (codeAt (bodyOf Tryz.prog 54) [1, 1, 1, 1, 0, 1, 0, 0])) (kAt (cfgOf Tryz.prog pureF pureT C [(5, [0, 2]), (9, [0, 3])] 54) (bodyOf Tryz.prog 54) [1, 1, 1, 1, 0, 1, 0] (endK Tryz.prog 54 K)) [(0, (ptr w0 0)), (2, (.int .i64 0))] m_4
theorem e54 (C : CallT) (w0 : Nat) (K : Value → Mem → Prop) (m : Mem) : evFn Tryz.prog pureF pureT C [(5, [0, 2]), (9, [0, 3])] 54 [(ptr w0 0)] K m = s54 C w0 K m := by kernel_rfl
theorem call54 {W0 : World} {w0 : Nat} {K : Value → Mem → Prop} {m : Mem} (h : s54 (callOK Tryz.prog W0) w0 K m) : callOK Tryz.prog W0 54 [(ptr w0 0)] K m :=
  evFn_sound pureOk mixedP (fun w => Tryz.call54 _ w) ((e54 (callOK Tryz.prog W0) w0 K m).symm ▸ h)
def s54_1 (C : CallT) (w0 : Nat) (c2 : Int) (Kt : Exit → Fr → Mem → Prop) (m : Mem) : Prop :=
  ifB (decide (c2 < 26))
  (ckI c2 26 fun j_5 =>
  st m w0 (680 + j_5) (.int .u64 0) fun m_6 =>
  Kt .normal [(0, (ptr w0 0)), (2, (.int .i64 (IntKind.wrap .i64 (c2 + 1))))] m_6)
  (Kt (.exit 0) [(0, (ptr w0 0)), (2, (.int .i64 c2))] m)
theorem e54_1 {C : CallT} {w0 : Nat} {c2 : Int} {Kt : Exit → Fr → Mem → Prop} {m : Mem} (h : s54_1 C w0 c2 Kt m) : evCode (cfgOf Tryz.prog pureF pureT C [(5, [0, 2]), (9, [0, 3])] 54) (codeAt (bodyOf Tryz.prog 54) [1, 1, 1, 1, 0, 1, 0, 0]) (trimK [0, 2] Kt) [(0, (ptr w0 0)), (2, (.int .i64 c2))] m :=
  (show _ = _ by kernel_rfl : evCode (cfgOf Tryz.prog pureF pureT C [(5, [0, 2]), (9, [0, 3])] 54) (codeAt (bodyOf Tryz.prog 54) [1, 1, 1, 1, 0, 1, 0, 0]) (trimK [0, 2] Kt) [(0, (ptr w0 0)), (2, (.int .i64 c2))] m = s54_1 C w0 c2 Kt m).symm ▸ h
def s54_1x0 (C : CallT) (w0 : Nat) (c2 : Int) (K : Value → Mem → Prop) (m : Mem) : Prop :=
  loopE [0, 3] (evCode (cfgOf Tryz.prog pureF pureT C [(5, [0, 2]), (9, [0, 3])] 54) (codeAt (bodyOf Tryz.prog 54) [1, 1, 1, 1, 1, 1, 0, 0])) (kAt (cfgOf Tryz.prog pureF pureT C [(5, [0, 2]), (9, [0, 3])] 54) (bodyOf Tryz.prog 54) [1, 1, 1, 1, 1, 1, 0] (endK Tryz.prog 54 K)) [(0, (ptr w0 0)), (3, (.int .i64 0))] m
theorem e54_1x0 {C : CallT} {kn : Fr → Mem → Prop} {w0 : Nat} {c2 : Int} {K : Value → Mem → Prop} {m : Mem} : (andThenE kn (kAt (cfgOf Tryz.prog pureF pureT C [(5, [0, 2]), (9, [0, 3])] 54) (bodyOf Tryz.prog 54) [1, 1, 1, 1, 0, 1, 0] (endK Tryz.prog 54 K)) (.exit 0) [(0, (ptr w0 0)), (2, (.int .i64 c2))] m) = s54_1x0 C w0 c2 K m := by kernel_rfl
def s54_2 (C : CallT) (w0 : Nat) (id3 : Int) (Kt : Exit → Fr → Mem → Prop) (m : Mem) : Prop :=
  ifB (decide (id3 < 52))
  (ckI id3 52 fun j_7 =>
  st m w0 (625 + j_7) (.int .i64 0) fun m_8 =>
  Kt .normal [(0, (ptr w0 0)), (3, (.int .i64 (IntKind.wrap .i64 (id3 + 1))))] m_8)
  (Kt (.exit 2) [(0, (ptr w0 0)), (3, (.int .i64 id3))] m)
theorem e54_2 {C : CallT} {w0 : Nat} {id3 : Int} {Kt : Exit → Fr → Mem → Prop} {m : Mem} (h : s54_2 C w0 id3 Kt m) : evCode (cfgOf Tryz.prog pureF pureT C [(5, [0, 2]), (9, [0, 3])] 54) (codeAt (bodyOf Tryz.prog 54) [1, 1, 1, 1, 1, 1, 0, 0]) (trimK [0, 3] Kt) [(0, (ptr w0 0)), (3, (.int .i64 id3))] m :=
  (show _ = _ by kernel_rfl : evCode (cfgOf Tryz.prog pureF pureT C [(5, [0, 2]), (9, [0, 3])] 54) (codeAt (bodyOf Tryz.prog 54) [1, 1, 1, 1, 1, 1, 0, 0]) (trimK [0, 3] Kt) [(0, (ptr w0 0)), (3, (.int .i64 id3))] m = s54_2 C w0 id3 Kt m).symm ▸ h
def s54_2x2 (C : CallT) (w0 : Nat) (id3 : Int) (K : Value → Mem → Prop) (m : Mem) : Prop :=
  K (.tuple #[]) m
theorem e54_2x2 {C : CallT} {kn : Fr → Mem → Prop} {w0 : Nat} {id3 : Int} {K : Value → Mem → Prop} {m : Mem} : (andThenE kn (kAt (cfgOf Tryz.prog pureF pureT C [(5, [0, 2]), (9, [0, 3])] 54) (bodyOf Tryz.prog 54) [1, 1, 1, 1, 1, 1, 0] (endK Tryz.prog 54 K)) (.exit 2) [(0, (ptr w0 0)), (3, (.int .i64 id3))] m) = s54_2x2 C w0 id3 K m := by kernel_rfl
def F54_1 (w0 : Nat) (c2 : Int) : Fr := [(0, (ptr w0 0)), (2, (.int .i64 c2))]
theorem loop54_1 {C : CallT} {γ : Type} {w0 : Nat} {K : Value → Mem → Prop} {m : Mem} (J : γ → Int → Mem → Prop) (μ : γ → Int → Nat) (g : γ) {c2 : Int} (hJ : J g c2 m)
    (hs : ∀ g c2 m, J g c2 m → s54_1 C w0 c2 (andThenE (fun fr m' => ∃ g' c2', fr = F54_1 w0 c2' ∧ J g' c2' m' ∧ μ g' c2' < μ g c2) (kAt (cfgOf Tryz.prog pureF pureT C [(5, [0, 2]), (9, [0, 3])] 54) (bodyOf Tryz.prog 54) [1, 1, 1, 1, 0, 1, 0] (endK Tryz.prog 54 K))) m) :
    loopE [0, 2] (evCode (cfgOf Tryz.prog pureF pureT C [(5, [0, 2]), (9, [0, 3])] 54) (codeAt (bodyOf Tryz.prog 54) [1, 1, 1, 1, 0, 1, 0, 0])) (kAt (cfgOf Tryz.prog pureF pureT C [(5, [0, 2]), (9, [0, 3])] 54) (bodyOf Tryz.prog 54) [1, 1, 1, 1, 0, 1, 0] (endK Tryz.prog 54 K)) [(0, (ptr w0 0)), (2, (.int .i64 c2))] m := by
  refine loop_rule (σ := γ × Int) (fun s => F54_1 w0 s.2) (fun s m => J s.1 s.2 m) (fun s => μ s.1 s.2) (g, c2) rfl hJ ?_
  intro s m hJ
  have h := hs s.1 s.2 m hJ
  refine e54_1 ?_
  refine Eq.mp (congrArg (fun B => s54_1 C w0 s.2 (andThenE B (kAt (cfgOf Tryz.prog pureF pureT C [(5, [0, 2]), (9, [0, 3])] 54) (bodyOf Tryz.prog 54) [1, 1, 1, 1, 0, 1, 0] (endK Tryz.prog 54 K))) m) ?_) h
  funext fr m'
  apply propext
  constructor
  · rintro ⟨g', c2', h1, h2, h3⟩
    exact ⟨(g', c2'), h1, h2, h3⟩
  · rintro ⟨⟨g', c2'⟩, h1, h2, h3⟩
    exact ⟨g', c2', h1, h2, h3⟩
def F54_2 (w0 : Nat) (id3 : Int) : Fr := [(0, (ptr w0 0)), (3, (.int .i64 id3))]
theorem loop54_2 {C : CallT} {γ : Type} {w0 : Nat} {K : Value → Mem → Prop} {m : Mem} (J : γ → Int → Mem → Prop) (μ : γ → Int → Nat) (g : γ) {id3 : Int} (hJ : J g id3 m)
    (hs : ∀ g id3 m, J g id3 m → s54_2 C w0 id3 (andThenE (fun fr m' => ∃ g' id3', fr = F54_2 w0 id3' ∧ J g' id3' m' ∧ μ g' id3' < μ g id3) (kAt (cfgOf Tryz.prog pureF pureT C [(5, [0, 2]), (9, [0, 3])] 54) (bodyOf Tryz.prog 54) [1, 1, 1, 1, 1, 1, 0] (endK Tryz.prog 54 K))) m) :
    loopE [0, 3] (evCode (cfgOf Tryz.prog pureF pureT C [(5, [0, 2]), (9, [0, 3])] 54) (codeAt (bodyOf Tryz.prog 54) [1, 1, 1, 1, 1, 1, 0, 0])) (kAt (cfgOf Tryz.prog pureF pureT C [(5, [0, 2]), (9, [0, 3])] 54) (bodyOf Tryz.prog 54) [1, 1, 1, 1, 1, 1, 0] (endK Tryz.prog 54 K)) [(0, (ptr w0 0)), (3, (.int .i64 id3))] m := by
  refine loop_rule (σ := γ × Int) (fun s => F54_2 w0 s.2) (fun s m => J s.1 s.2 m) (fun s => μ s.1 s.2) (g, id3) rfl hJ ?_
  intro s m hJ
  have h := hs s.1 s.2 m hJ
  refine e54_2 ?_
  refine Eq.mp (congrArg (fun B => s54_2 C w0 s.2 (andThenE B (kAt (cfgOf Tryz.prog pureF pureT C [(5, [0, 2]), (9, [0, 3])] 54) (bodyOf Tryz.prog 54) [1, 1, 1, 1, 1, 1, 0] (endK Tryz.prog 54 K))) m) ?_) h
  funext fr m'
  apply propext
  constructor
  · rintro ⟨g', id3', h1, h2, h3⟩
    exact ⟨(g', id3'), h1, h2, h3⟩
  · rintro ⟨⟨g', id3'⟩, h1, h2, h3⟩
    exact ⟨g', id3', h1, h2, h3⟩

def s55 (C : CallT) (w0 : Nat) (c1a : Option Addr) (c1l c1c : Nat) (learnt2 : Bool) (K : Value → Mem → Prop) (m : Mem) : Prop :=
  C 95 [(.slice c1a c1l c1c)] (fun rm_2 m_2 =>
  ∃ x_1, rm_2 = (.int .i64 x_1) ∧
  ifB (x_1 != 0)
  (K (.tuple #[(.int .i64 0), (.int .i64 x_1)]) m_2)
  (C 96 [(ptr w0 0), (.bool learnt2)] (fun rm_4 m_4 =>
  ∃ x_3, rm_4 = (.int .i64 x_3) ∧
  ifB (decide (x_3 < 0))
  (K (.tuple #[(.int .i64 0), (.int .i64 12)]) m_4)
  (loopE [0, 1, 9, 10, 11] (evCode (cfgOf Tryz.prog pureF pureT C [(9, [0, 1, 9, 10, 11])] 55) (codeAt (bodyOf Tryz.prog 55) [1, 1, 1, 1, 1, 1, 0, 1, 0, 0])) (kAt (cfgOf Tryz.prog pureF pureT C [(9, [0, 1, 9, 10, 11])] 55) (bodyOf Tryz.prog 55) [1, 1, 1, 1, 1, 1, 0, 1, 0] (endK Tryz.prog 55 K)) [(0, (ptr w0 0)), (1, (.slice c1a c1l c1c)), (9, (.int .i64 x_3)), (10, (.int .i64 (IntKind.wrap .i64 (x_3 * 12)))), (11, (.int .i64 0))] m_4)) m_2)) m
theorem e55 (C : CallT) (w0 : Nat) (c1a : Option Addr) (c1l c1c : Nat) (learnt2 : Bool) (K : Value → Mem → Prop) (m : Mem) : evFn Tryz.prog pureF pureT C [(9, [0, 1, 9, 10, 11])] 55 [(ptr w0 0), (.slice c1a c1l c1c), (.bool learnt2)] K m = s55 C w0 c1a c1l c1c learnt2 K m := by kernel_rfl
theorem call55 {W0 : World} {w0 : Nat} {c1a : Option Addr} {c1l c1c : Nat} {learnt2 : Bool} {K : Value → Mem → Prop} {m : Mem} (h : s55 (callOK Tryz.prog W0) w0 c1a c1l c1c learnt2 K m) : callOK Tryz.prog W0 55 [(ptr w0 0), (.slice c1a c1l c1c), (.bool learnt2)] K m :=
  evFn_sound pureOk mixedP (fun w => Tryz.call55 _ w) ((e55 (callOK Tryz.prog W0) w0 c1a c1l c1c learnt2 K m).symm ▸ h)
def s55_1 (C : CallT) (w0 : Nat) (c1a : Option Addr) (c1l c1c : Nat) (id9 : Int) (base10 : Int) (i11 : Int) (Kt : Exit → Fr → Mem → Prop) (m : Mem) : Prop :=
  ifB (decide (i11 < ((c1l : Nat) : Int)))
  (ckP c1a fun b_5 o_5 =>
  ckI i11 c1l fun j_6 =>
  ldInt .i64 m b_5 (o_5 + j_6) fun x_7 =>
  ckI (IntKind.wrap .i64 (base10 + i11)) 624 fun j_8 =>
  st m w0 (1 + j_8) (.int .i64 x_7) fun m_9 =>
  Kt .normal [(0, (ptr w0 0)), (1, (.slice c1a c1l c1c)), (9, (.int .i64 id9)), (10, (.int .i64 base10)), (11, (.int .i64 (IntKind.wrap .i64 (i11 + 1))))] m_9)
  (Kt (.exit 0) [(0, (ptr w0 0)), (1, (.slice c1a c1l c1c)), (9, (.int .i64 id9)), (10, (.int .i64 base10)), (11, (.int .i64 i11))] m)
theorem e55_1 {C : CallT} {w0 : Nat} {c1a : Option Addr} {c1l c1c : Nat} {id9 : Int} {base10 : Int} {i11 : Int} {Kt : Exit → Fr → Mem → Prop} {m : Mem} (h : s55_1 C w0 c1a c1l c1c id9 base10 i11 Kt m) : evCode (cfgOf Tryz.prog pureF pureT C [(9, [0, 1, 9, 10, 11])] 55) (codeAt (bodyOf Tryz.prog 55) [1, 1, 1, 1, 1, 1, 0, 1, 0, 0]) (trimK [0, 1, 9, 10, 11] Kt) [(0, (ptr w0 0)), (1, (.slice c1a c1l c1c)), (9, (.int .i64 id9)), (10, (.int .i64 base10)), (11, (.int .i64 i11))] m :=
  (show _ = _ by kernel_rfl : evCode (cfgOf Tryz.prog pureF pureT C [(9, [0, 1, 9, 10, 11])] 55) (codeAt (bodyOf Tryz.prog 55) [1, 1, 1, 1, 1, 1, 0, 1, 0, 0]) (trimK [0, 1, 9, 10, 11] Kt) [(0, (ptr w0 0)), (1, (.slice c1a c1l c1c)), (9, (.int .i64 id9)), (10, (.int .i64 base10)), (11, (.int .i64 i11))] m = s55_1 C w0 c1a c1l c1c id9 base10 i11 Kt m).symm ▸ h
def s55_1x0 (C : CallT) (w0 : Nat) (c1a : Option Addr) (c1l c1c : Nat) (id9 : Int) (base10 : Int) (i11 : Int) (K : Value → Mem → Prop) (m : Mem) : Prop :=
  ckI id9 52 fun j_10 =>
  st m w0 (625 + j_10) (.int .i64 ((c1l : Nat) : Int)) fun m_11 =>
  ldInt .u64 m_11 w0 677 fun x_12 =>
  st m_11 w0 677 (.int .u64 (bOr .u64 x_12 (goBit id9))) fun m_13 =>
  ldInt .u64 m_13 w0 678 fun x_14 =>
  st m_13 w0 678 (.int .u64 (bOr .u64 x_14 (goBit id9))) fun m_15 =>
  K (.tuple #[(.int .i64 id9), (.int .i64 0)]) m_15
theorem e55_1x0 {C : CallT} {kn : Fr → Mem → Prop} {w0 : Nat} {c1a : Option Addr} {c1l c1c : Nat} {id9 : Int} {base10 : Int} {i11 : Int} {K : Value → Mem → Prop} {m : Mem} : (andThenE kn (kAt (cfgOf Tryz.prog pureF pureT C [(9, [0, 1, 9, 10, 11])] 55) (bodyOf Tryz.prog 55) [1, 1, 1, 1, 1, 1, 0, 1, 0] (endK Tryz.prog 55 K)) (.exit 0) [(0, (ptr w0 0)), (1, (.slice c1a c1l c1c)), (9, (.int .i64 id9)), (10, (.int .i64 base10)), (11, (.int .i64 i11))] m) = s55_1x0 C w0 c1a c1l c1c id9 base10 i11 K m := by kernel_rfl
def F55_1 (w0 : Nat) (c1a : Option Addr) (c1l c1c : Nat) (id9 : Int) (base10 : Int) (i11 : Int) : Fr := [(0, (ptr w0 0)), (1, (.slice c1a c1l c1c)), (9, (.int .i64 id9)), (10, (.int .i64 base10)), (11, (.int .i64 i11))]
theorem loop55_1 {C : CallT} {γ : Type} {w0 : Nat} {c1a : Option Addr} {c1l c1c : Nat} {id9 : Int} {base10 : Int} {K : Value → Mem → Prop} {m : Mem} (J : γ → Int → Mem → Prop) (μ : γ → Int → Nat) (g : γ) {i11 : Int} (hJ : J g i11 m)
    (hs : ∀ g i11 m, J g i11 m → s55_1 C w0 c1a c1l c1c id9 base10 i11 (andThenE (fun fr m' => ∃ g' i11', fr = F55_1 w0 c1a c1l c1c id9 base10 i11' ∧ J g' i11' m' ∧ μ g' i11' < μ g i11) (kAt (cfgOf Tryz.prog pureF pureT C [(9, [0, 1, 9, 10, 11])] 55) (bodyOf Tryz.prog 55) [1, 1, 1, 1, 1, 1, 0, 1, 0] (endK Tryz.prog 55 K))) m) :
    loopE [0, 1, 9, 10, 11] (evCode (cfgOf Tryz.prog pureF pureT C [(9, [0, 1, 9, 10, 11])] 55) (codeAt (bodyOf Tryz.prog 55) [1, 1, 1, 1, 1, 1, 0, 1, 0, 0])) (kAt (cfgOf Tryz.prog pureF pureT C [(9, [0, 1, 9, 10, 11])] 55) (bodyOf Tryz.prog 55) [1, 1, 1, 1, 1, 1, 0, 1, 0] (endK Tryz.prog 55 K)) [(0, (ptr w0 0)), (1, (.slice c1a c1l c1c)), (9, (.int .i64 id9)), (10, (.int .i64 base10)), (11, (.int .i64 i11))] m := by
  refine loop_rule (σ := γ × Int) (fun s => F55_1 w0 c1a c1l c1c id9 base10 s.2) (fun s m => J s.1 s.2 m) (fun s => μ s.1 s.2) (g, i11) rfl hJ ?_
  intro s m hJ
  have h := hs s.1 s.2 m hJ
  refine e55_1 ?_
  refine Eq.mp (congrArg (fun B => s55_1 C w0 c1a c1l c1c id9 base10 s.2 (andThenE B (kAt (cfgOf Tryz.prog pureF pureT C [(9, [0, 1, 9, 10, 11])] 55) (bodyOf Tryz.prog 55) [1, 1, 1, 1, 1, 1, 0, 1, 0] (endK Tryz.prog 55 K))) m) ?_) h
  funext fr m'
  apply propext
  constructor
  · rintro ⟨g', i11', h1, h2, h3⟩
    exact ⟨(g', i11'), h1, h2, h3⟩
  · rintro ⟨⟨g', i11'⟩, h1, h2, h3⟩
    exact ⟨g', i11', h1, h2, h3⟩

def s56 (C : CallT) (w0 : Nat) (K : Value → Mem → Prop) (m : Mem) : Prop :=
  ldInt .u64 m w0 678 fun x_1 =>
  ldInt .u64 m w0 679 fun x_2 =>
  loopE [0, 2, 3, 4] (evCode (cfgOf Tryz.prog pureF pureT C [(3, [0, 2, 3, 4])] 56) (codeAt (bodyOf Tryz.prog 56) [1, 1, 0, 1, 0, 0])) (kAt (cfgOf Tryz.prog pureF pureT C [(3, [0, 2, 3, 4])] 56) (bodyOf Tryz.prog 56) [1, 1, 0, 1, 0] (endK Tryz.prog 56 K)) [(0, (ptr w0 0)), (2, (.int .i64 0)), (3, (.int .u64 (bOr .u64 x_1 x_2))), (4, (.int .i64 0))] m
theorem e56 (C : CallT) (w0 : Nat) (K : Value → Mem → Prop) (m : Mem) : evFn Tryz.prog pureF pureT C [(3, [0, 2, 3, 4])] 56 [(ptr w0 0)] K m = s56 C w0 K m := by kernel_rfl
theorem call56 {W0 : World} {w0 : Nat} {K : Value → Mem → Prop} {m : Mem} (h : s56 (callOK Tryz.prog W0) w0 K m) : callOK Tryz.prog W0 56 [(ptr w0 0)] K m :=
  evFn_sound pureOk mixedP (fun w => Tryz.call56 _ w) ((e56 (callOK Tryz.prog W0) w0 K m).symm ▸ h)
def s56_1 (C : CallT) (w0 : Nat) (t2 : Int) (todo3 : Int) (id4 : Int) (Kt : Exit → Fr → Mem → Prop) (m : Mem) : Prop :=
  ifB (decide (id4 < 52))
  (ifB (goHas todo3 id4)
  (C 99 [(ptr w0 0), (.int .i64 id4)] (fun rm_4 m_4 =>
  ∃ x_3, rm_4 = (.int .i64 x_3) ∧
  ifB (decide (x_3 ≥ 0))
  (Kt .ret [(0, (ptr w0 0)), (2, (.int .i64 x_3)), (3, (.int .u64 todo3)), (4, (.int .i64 id4))] m_4)
  (Kt .normal [(0, (ptr w0 0)), (2, (.int .i64 t2)), (3, (.int .u64 todo3)), (4, (.int .i64 (IntKind.wrap .i64 (id4 + 1))))] m_4)) m)
  (Kt .normal [(0, (ptr w0 0)), (2, (.int .i64 t2)), (3, (.int .u64 todo3)), (4, (.int .i64 (IntKind.wrap .i64 (id4 + 1))))] m))
  (Kt (.exit 0) [(0, (ptr w0 0)), (2, (.int .i64 t2)), (3, (.int .u64 todo3)), (4, (.int .i64 id4))] m)
theorem e56_1 {C : CallT} {w0 : Nat} {t2 : Int} {todo3 : Int} {id4 : Int} {Kt : Exit → Fr → Mem → Prop} {m : Mem} (h : s56_1 C w0 t2 todo3 id4 Kt m) : evCode (cfgOf Tryz.prog pureF pureT C [(3, [0, 2, 3, 4])] 56) (codeAt (bodyOf Tryz.prog 56) [1, 1, 0, 1, 0, 0]) (trimK [0, 2, 3, 4] Kt) [(0, (ptr w0 0)), (2, (.int .i64 t2)), (3, (.int .u64 todo3)), (4, (.int .i64 id4))] m :=
  (show _ = _ by kernel_rfl : evCode (cfgOf Tryz.prog pureF pureT C [(3, [0, 2, 3, 4])] 56) (codeAt (bodyOf Tryz.prog 56) [1, 1, 0, 1, 0, 0]) (trimK [0, 2, 3, 4] Kt) [(0, (ptr w0 0)), (2, (.int .i64 t2)), (3, (.int .u64 todo3)), (4, (.int .i64 id4))] m = s56_1 C w0 t2 todo3 id4 Kt m).symm ▸ h
def s56_1r (C : CallT) (w0 : Nat) (t2 : Int) (todo3 : Int) (id4 : Int) (K : Value → Mem → Prop) (m : Mem) : Prop :=
  K (.int .i64 t2) m
theorem e56_1r {C : CallT} {kn : Fr → Mem → Prop} {w0 : Nat} {t2 : Int} {todo3 : Int} {id4 : Int} {K : Value → Mem → Prop} {m : Mem} : (andThenE kn (kAt (cfgOf Tryz.prog pureF pureT C [(3, [0, 2, 3, 4])] 56) (bodyOf Tryz.prog 56) [1, 1, 0, 1, 0] (endK Tryz.prog 56 K)) .ret [(0, (ptr w0 0)), (2, (.int .i64 t2)), (3, (.int .u64 todo3)), (4, (.int .i64 id4))] m) = s56_1r C w0 t2 todo3 id4 K m := by kernel_rfl
def s56_1x0 (C : CallT) (w0 : Nat) (t2 : Int) (todo3 : Int) (id4 : Int) (K : Value → Mem → Prop) (m : Mem) : Prop :=
  K (.int .i64 (-1)) m
theorem e56_1x0 {C : CallT} {kn : Fr → Mem → Prop} {w0 : Nat} {t2 : Int} {todo3 : Int} {id4 : Int} {K : Value → Mem → Prop} {m : Mem} : (andThenE kn (kAt (cfgOf Tryz.prog pureF pureT C [(3, [0, 2, 3, 4])] 56) (bodyOf Tryz.prog 56) [1, 1, 0, 1, 0] (endK Tryz.prog 56 K)) (.exit 0) [(0, (ptr w0 0)), (2, (.int .i64 t2)), (3, (.int .u64 todo3)), (4, (.int .i64 id4))] m) = s56_1x0 C w0 t2 todo3 id4 K m := by kernel_rfl
def F56_1 (w0 : Nat) (t2 : Int) (todo3 : Int) (id4 : Int) : Fr := [(0, (ptr w0 0)), (2, (.int .i64 t2)), (3, (.int .u64 todo3)), (4, (.int .i64 id4))]
theorem loop56_1 {C : CallT} {γ : Type} {w0 : Nat} {todo3 : Int} {K : Value → Mem → Prop} {m : Mem} (J : γ → Int → Int → Mem → Prop) (μ : γ → Int → Int → Nat) (g : γ) {t2 : Int} {id4 : Int} (hJ : J g t2 id4 m)
    (hs : ∀ g t2 id4 m, J g t2 id4 m → s56_1 C w0 t2 todo3 id4 (andThenE (fun fr m' => ∃ g' t2' id4', fr = F56_1 w0 t2' todo3 id4' ∧ J g' t2' id4' m' ∧ μ g' t2' id4' < μ g t2 id4) (kAt (cfgOf Tryz.prog pureF pureT C [(3, [0, 2, 3, 4])] 56) (bodyOf Tryz.prog 56) [1, 1, 0, 1, 0] (endK Tryz.prog 56 K))) m) :
    loopE [0, 2, 3, 4] (evCode (cfgOf Tryz.prog pureF pureT C [(3, [0, 2, 3, 4])] 56) (codeAt (bodyOf Tryz.prog 56) [1, 1, 0, 1, 0, 0])) (kAt (cfgOf Tryz.prog pureF pureT C [(3, [0, 2, 3, 4])] 56) (bodyOf Tryz.prog 56) [1, 1, 0, 1, 0] (endK Tryz.prog 56 K)) [(0, (ptr w0 0)), (2, (.int .i64 t2)), (3, (.int .u64 todo3)), (4, (.int .i64 id4))] m := by
  refine loop_rule (σ := γ × Int × Int) (fun s => F56_1 w0 s.2.1 todo3 s.2.2) (fun s m => J s.1 s.2.1 s.2.2 m) (fun s => μ s.1 s.2.1 s.2.2) (g, t2, id4) rfl hJ ?_
  intro s m hJ
  have h := hs s.1 s.2.1 s.2.2 m hJ
  refine e56_1 ?_
  refine Eq.mp (congrArg (fun B => s56_1 C w0 s.2.1 todo3 s.2.2 (andThenE B (kAt (cfgOf Tryz.prog pureF pureT C [(3, [0, 2, 3, 4])] 56) (bodyOf Tryz.prog 56) [1, 1, 0, 1, 0] (endK Tryz.prog 56 K))) m) ?_) h
  funext fr m'
  apply propext
  constructor
  · rintro ⟨g', t2', id4', h1, h2, h3⟩
    exact ⟨(g', t2', id4'), h1, h2, h3⟩
  · rintro ⟨⟨g', t2', id4'⟩, h1, h2, h3⟩
    exact ⟨g', t2', id4', h1, h2, h3⟩

def s57 (C : CallT) (w0 : Nat) (K : Value → Mem → Prop) (m : Mem) : Prop :=
  ldPtr m w0 0 fun p_1 =>
  C 100 [(.pointer p_1)] (fun rm_3 m_3 =>
  ∃ x_2, rm_3 = (.int .i64 x_2) ∧
  loopE [0, 2, 3] (evCode (cfgOf Tryz.prog pureF pureT C [(2, [0, 2, 3])] 57) (codeAt (bodyOf Tryz.prog 57) [1, 1, 0, 0, 0])) (kAt (cfgOf Tryz.prog pureF pureT C [(2, [0, 2, 3])] 57) (bodyOf Tryz.prog 57) [1, 1, 0, 0] (endK Tryz.prog 57 K)) [(0, (ptr w0 0)), (2, (.int .i64 0)), (3, (.int .i64 x_2))] m_3) m
theorem e57 (C : CallT) (w0 : Nat) (K : Value → Mem → Prop) (m : Mem) : evFn Tryz.prog pureF pureT C [(2, [0, 2, 3])] 57 [(ptr w0 0)] K m = s57 C w0 K m := by kernel_rfl
theorem call57 {W0 : World} {w0 : Nat} {K : Value → Mem → Prop} {m : Mem} (h : s57 (callOK Tryz.prog W0) w0 K m) : callOK Tryz.prog W0 57 [(ptr w0 0)] K m :=
  evFn_sound pureOk mixedP (fun w => Tryz.call57 _ w) ((e57 (callOK Tryz.prog W0) w0 K m).symm ▸ h)
def s57_1 (C : CallT) (w0 : Nat) (t2 : Int) (pend3 : Int) (Kt : Exit → Fr → Mem → Prop) (m : Mem) : Prop :=
  ifB (decide (pend3 > 0))
  (ldPtr m w0 0 fun p_4 =>
  C 32 [(.pointer p_4)] (fun rm_6 m_6 =>
  ∃ x_5, rm_6 = (.int .i64 x_5) ∧
  ldPtr m_6 w0 0 fun p_7 =>
  C 101 [(.pointer p_7), (.int .i64 (IntKind.wrap .i64 (x_5 - pend3)))] (fun rm_9 m_9 =>
  ∃ x_8, rm_9 = (.int .i64 x_8) ∧
  C 102 [(ptr w0 0), (.int .i64 x_8)] (fun rm_11 m_11 =>
  ∃ x_10, rm_11 = (.int .i64 x_10) ∧
  ifB (decide (x_10 ≥ 0))
  (Kt .ret [(0, (ptr w0 0)), (2, (.int .i64 x_10)), (3, (.int .i64 pend3))] m_11)
  (ldPtr m_11 w0 0 fun p_12 =>
  C 103 [(.pointer p_12)] (fun rm_14 m_14 =>
  ∃ x_13, rm_14 = (.int .i64 x_13) ∧
  ldPtr m_14 w0 0 fun p_15 =>
  C 100 [(.pointer p_15)] (fun rm_17 m_17 =>
  ∃ x_16, rm_17 = (.int .i64 x_16) ∧
  Kt .normal [(0, (ptr w0 0)), (2, (.int .i64 t2)), (3, (.int .i64 x_16))] m_17) m_14) m_11)) m_9) m_6) m)
  (Kt (.exit 0) [(0, (ptr w0 0)), (2, (.int .i64 t2)), (3, (.int .i64 pend3))] m)
theorem e57_1 {C : CallT} {w0 : Nat} {t2 : Int} {pend3 : Int} {Kt : Exit → Fr → Mem → Prop} {m : Mem} (h : s57_1 C w0 t2 pend3 Kt m) : evCode (cfgOf Tryz.prog pureF pureT C [(2, [0, 2, 3])] 57) (codeAt (bodyOf Tryz.prog 57) [1, 1, 0, 0, 0]) (trimK [0, 2, 3] Kt) [(0, (ptr w0 0)), (2, (.int .i64 t2)), (3, (.int .i64 pend3))] m :=
  (show _ = _ by kernel_rfl : evCode (cfgOf Tryz.prog pureF pureT C [(2, [0, 2, 3])] 57) (codeAt (bodyOf Tryz.prog 57) [1, 1, 0, 0, 0]) (trimK [0, 2, 3] Kt) [(0, (ptr w0 0)), (2, (.int .i64 t2)), (3, (.int .i64 pend3))] m = s57_1 C w0 t2 pend3 Kt m).symm ▸ h
def s57_1r (C : CallT) (w0 : Nat) (t2 : Int) (pend3 : Int) (K : Value → Mem → Prop) (m : Mem) : Prop :=
  K (.int .i64 t2) m
theorem e57_1r {C : CallT} {kn : Fr → Mem → Prop} {w0 : Nat} {t2 : Int} {pend3 : Int} {K : Value → Mem → Prop} {m : Mem} : (andThenE kn (kAt (cfgOf Tryz.prog pureF pureT C [(2, [0, 2, 3])] 57) (bodyOf Tryz.prog 57) [1, 1, 0, 0] (endK Tryz.prog 57 K)) .ret [(0, (ptr w0 0)), (2, (.int .i64 t2)), (3, (.int .i64 pend3))] m) = s57_1r C w0 t2 pend3 K m := by kernel_rfl
def s57_1x0 (C : CallT) (w0 : Nat) (t2 : Int) (pend3 : Int) (K : Value → Mem → Prop) (m : Mem) : Prop :=
  K (.int .i64 (-1)) m
theorem e57_1x0 {C : CallT} {kn : Fr → Mem → Prop} {w0 : Nat} {t2 : Int} {pend3 : Int} {K : Value → Mem → Prop} {m : Mem} : (andThenE kn (kAt (cfgOf Tryz.prog pureF pureT C [(2, [0, 2, 3])] 57) (bodyOf Tryz.prog 57) [1, 1, 0, 0] (endK Tryz.prog 57 K)) (.exit 0) [(0, (ptr w0 0)), (2, (.int .i64 t2)), (3, (.int .i64 pend3))] m) = s57_1x0 C w0 t2 pend3 K m := by kernel_rfl
def F57_1 (w0 : Nat) (t2 : Int) (pend3 : Int) : Fr := [(0, (ptr w0 0)), (2, (.int .i64 t2)), (3, (.int .i64 pend3))]
theorem loop57_1 {C : CallT} {γ : Type} {w0 : Nat} {K : Value → Mem → Prop} {m : Mem} (J : γ → Int → Int → Mem → Prop) (μ : γ → Int → Int → Nat) (g : γ) {t2 : Int} {pend3 : Int} (hJ : J g t2 pend3 m)
    (hs : ∀ g t2 pend3 m, J g t2 pend3 m → s57_1 C w0 t2 pend3 (andThenE (fun fr m' => ∃ g' t2' pend3', fr = F57_1 w0 t2' pend3' ∧ J g' t2' pend3' m' ∧ μ g' t2' pend3' < μ g t2 pend3) (kAt (cfgOf Tryz.prog pureF pureT C [(2, [0, 2, 3])] 57) (bodyOf Tryz.prog 57) [1, 1, 0, 0] (endK Tryz.prog 57 K))) m) :
    loopE [0, 2, 3] (evCode (cfgOf Tryz.prog pureF pureT C [(2, [0, 2, 3])] 57) (codeAt (bodyOf Tryz.prog 57) [1, 1, 0, 0, 0])) (kAt (cfgOf Tryz.prog pureF pureT C [(2, [0, 2, 3])] 57) (bodyOf Tryz.prog 57) [1, 1, 0, 0] (endK Tryz.prog 57 K)) [(0, (ptr w0 0)), (2, (.int .i64 t2)), (3, (.int .i64 pend3))] m := by
  refine loop_rule (σ := γ × Int × Int) (fun s => F57_1 w0 s.2.1 s.2.2) (fun s m => J s.1 s.2.1 s.2.2 m) (fun s => μ s.1 s.2.1 s.2.2) (g, t2, pend3) rfl hJ ?_
  intro s m hJ
  have h := hs s.1 s.2.1 s.2.2 m hJ
  refine e57_1 ?_
  refine Eq.mp (congrArg (fun B => s57_1 C w0 s.2.1 s.2.2 (andThenE B (kAt (cfgOf Tryz.prog pureF pureT C [(2, [0, 2, 3])] 57) (bodyOf Tryz.prog 57) [1, 1, 0, 0] (endK Tryz.prog 57 K))) m) ?_) h
  funext fr m'
  apply propext
  constructor
  · rintro ⟨g', t2', pend3', h1, h2, h3⟩
    exact ⟨(g', t2', pend3'), h1, h2, h3⟩
  · rintro ⟨⟨g', t2', pend3'⟩, h1, h2, h3⟩
    exact ⟨g', t2', pend3', h1, h2, h3⟩

def s58 (C : CallT) (a0 : Nat) (conf1 : Int) (K : Value → Mem → Prop) (m : Mem) : Prop :=
  allocB m (zeroBlk Tryz.prog 123) fun b_1 m_2 =>
  ldPtr m_2 a0 1 fun p_3 =>
  C 46 [(.pointer p_3), (.int .i64 conf1)] (fun rm_6 m_6 =>
  ∃ x_4a x_4l x_4c x_5, rm_6 = (.tuple #[(.slice x_4a x_4l x_4c), (.int .i64 x_5)]) ∧
  ifB (x_5 != 0)
  (stL m_6 b_1 0 [(.int .i64 13), (.slice none 0 0), (.int .i64 0), (.int .i64 0)] fun m_7 =>
  ldInt .i64 m_7 b_1 0 fun x_8 =>
  ldSl m_7 b_1 1 fun l_9a l_9l l_9c =>
  ldInt .i64 m_7 b_1 2 fun x_10 =>
  ldInt .i64 m_7 b_1 3 fun x_11 =>
  K (.agg #[(.int .i64 x_8), (.slice l_9a l_9l l_9c), (.int .i64 x_10), (.int .i64 x_11)]) m_7)
  (C 104 [(ptr a0 0), (.slice x_4a x_4l x_4c)] (fun rm_13 m_13 =>
  ∃ x_12, rm_13 = (.bool x_12) ∧
  ifB (!x_12)
  (stL m_13 b_1 0 [(.int .i64 15), (.slice none 0 0), (.int .i64 0), (.int .i64 0)] fun m_14 =>
  ldInt .i64 m_14 b_1 0 fun x_15 =>
  ldSl m_14 b_1 1 fun l_16a l_16l l_16c =>
  ldInt .i64 m_14 b_1 2 fun x_17 =>
  ldInt .i64 m_14 b_1 3 fun x_18 =>
  K (.agg #[(.int .i64 x_15), (.slice l_16a l_16l l_16c), (.int .i64 x_17), (.int .i64 x_18)]) m_14)
  (ldPtr m_13 a0 0 fun p_19 =>
  C 105 [(.pointer p_19)] (fun rm_21 m_21 =>
  ∃ x_20, rm_21 = (.int .i64 x_20) ∧
  st m_21 a0 6 (.int .i64 x_20) fun m_22 =>
  ldInt .i64 m_22 a0 6 fun x_23 =>
  ifB (x_23 == 0)
  (C 106 [(ptr a0 0), (.int .i64 10)] (fun rm_28 m_28 =>
  ∃ x_24 x_25a x_25l x_25c x_26 x_27, rm_28 = (.agg #[(.int .i64 x_24), (.slice x_25a x_25l x_25c), (.int .i64 x_26), (.int .i64 x_27)]) ∧
  stL m_28 b_1 0 [(.int .i64 x_24), (.slice x_25a x_25l x_25c), (.int .i64 x_26), (.int .i64 x_27)] fun m_29 =>
  ldInt .i64 m_29 b_1 0 fun x_30 =>
  ldSl m_29 b_1 1 fun l_31a l_31l l_31c =>
  ldInt .i64 m_29 b_1 2 fun x_32 =>
  ldInt .i64 m_29 b_1 3 fun x_33 =>
  K (.agg #[(.int .i64 x_30), (.slice l_31a l_31l l_31c), (.int .i64 x_32), (.int .i64 x_33)]) m_29) m_22)
  (C 107 [(ptr a0 0), (.slice x_4a x_4l x_4c)] (fun rm_35 m_35 =>
  ∃ x_34, rm_35 = (.bool x_34) ∧
  ldInt .i64 m_35 a0 5 fun x_36 =>
  ifB (x_36 == 0)
  (C 106 [(ptr a0 0), (.int .i64 10)] (fun rm_41 m_41 =>
  ∃ x_37 x_38a x_38l x_38c x_39 x_40, rm_41 = (.agg #[(.int .i64 x_37), (.slice x_38a x_38l x_38c), (.int .i64 x_39), (.int .i64 x_40)]) ∧
  stL m_41 b_1 0 [(.int .i64 x_37), (.slice x_38a x_38l x_38c), (.int .i64 x_39), (.int .i64 x_40)] fun m_42 =>
  ldInt .i64 m_42 b_1 0 fun x_43 =>
  ldSl m_42 b_1 1 fun l_44a l_44l l_44c =>
  ldInt .i64 m_42 b_1 2 fun x_45 =>
  ldInt .i64 m_42 b_1 3 fun x_46 =>
  K (.agg #[(.int .i64 x_43), (.slice l_44a l_44l l_44c), (.int .i64 x_45), (.int .i64 x_46)]) m_42) m_35)
  (C 108 [(ptr a0 0)] (fun rm_48 m_48 =>
  ∃ x_47, rm_48 = (.int .i64 x_47) ∧
  ifB (x_47 == 0)
  (C 106 [(ptr a0 0), (.int .i64 15)] (fun rm_53 m_53 =>
  ∃ x_49 x_50a x_50l x_50c x_51 x_52, rm_53 = (.agg #[(.int .i64 x_49), (.slice x_50a x_50l x_50c), (.int .i64 x_51), (.int .i64 x_52)]) ∧
  stL m_53 b_1 0 [(.int .i64 x_49), (.slice x_50a x_50l x_50c), (.int .i64 x_51), (.int .i64 x_52)] fun m_54 =>
  ldInt .i64 m_54 b_1 0 fun x_55 =>
  ldSl m_54 b_1 1 fun l_56a l_56l l_56c =>
  ldInt .i64 m_54 b_1 2 fun x_57 =>
  ldInt .i64 m_54 b_1 3 fun x_58 =>
  K (.agg #[(.int .i64 x_55), (.slice l_56a l_56l l_56c), (.int .i64 x_57), (.int .i64 x_58)]) m_54) m_48)
  (C 109 [(ptr a0 0), (.int .i64 (IntKind.wrap .i64 (0 - x_47)))] (fun rm_59 m_59 =>
  rm_59 = (.tuple #[]) ∧
  C 110 [(ptr a0 0), (.int .i64 (IntKind.wrap .i64 (0 - x_47)))] (fun rm_64 m_64 =>
  ∃ x_60 x_61a x_61l x_61c x_62 x_63, rm_64 = (.agg #[(.int .i64 x_60), (.slice x_61a x_61l x_61c), (.int .i64 x_62), (.int .i64 x_63)]) ∧
  allocB m_64 (zeroBlk Tryz.prog 123) fun b_65 m_66 =>
  stL m_66 b_65 0 [(.int .i64 x_60), (.slice x_61a x_61l x_61c), (.int .i64 x_62), (.int .i64 x_63)] fun m_67 =>
  C 111 [(ptr a0 0)] (fun rm_68 m_68 =>
  rm_68 = (.tuple #[]) ∧
  ldInt .i64 m_68 b_65 0 fun x_69 =>
  ldSl m_68 b_65 1 fun l_70a l_70l l_70c =>
  ldInt .i64 m_68 b_65 2 fun x_71 =>
  ldInt .i64 m_68 b_65 3 fun x_72 =>
  stL m_68 b_1 0 [(.int .i64 x_69), (.slice l_70a l_70l l_70c), (.int .i64 x_71), (.int .i64 x_72)] fun m_73 =>
  ldInt .i64 m_73 b_1 0 fun x_74 =>
  ldSl m_73 b_1 1 fun l_75a l_75l l_75c =>
  ldInt .i64 m_73 b_1 2 fun x_76 =>
  ldInt .i64 m_73 b_1 3 fun x_77 =>
  K (.agg #[(.int .i64 x_74), (.slice l_75a l_75l l_75c), (.int .i64 x_76), (.int .i64 x_77)]) m_73) m_67) m_59) m_48)) m_35)) m_22)) m_13)) m_6)) m_2
theorem e58 (C : CallT) (a0 : Nat) (conf1 : Int) (K : Value → Mem → Prop) (m : Mem) : evFn Tryz.prog pureF pureT C [] 58 [(ptr a0 0), (.int .i64 conf1)] K m = s58 C a0 conf1 K m := by kernel_rfl
theorem call58 {W0 : World} {a0 : Nat} {conf1 : Int} {K : Value → Mem → Prop} {m : Mem} (h : s58 (callOK Tryz.prog W0) a0 conf1 K m) : callOK Tryz.prog W0 58 [(ptr a0 0), (.int .i64 conf1)] K m :=
  evFn_sound pureOk mixedP (fun w => Tryz.call58 _ w) ((e58 (callOK Tryz.prog W0) a0 conf1 K m).symm ▸ h)

def s59 (C : CallT) (s0 : Nat) (del1 : Bool) (c2a : Option Addr) (c2l c2c : Nat) (K : Value → Mem → Prop) (m : Mem) : Prop :=
  ifB del1
  (ldSl m s0 4 fun l_1a l_1l l_1c =>
  allocB m (Blk.ofList [(.int .i64 13)]) fun b_2 m_3 =>
  rdRow m_3 (some ⟨b_2, 0, none⟩) (1 * 1) fun r_6 =>
  appendC m_3 1 8 [(.int .i64 0)] l_1a l_1l l_1c 1 r_6 fun a_4 c_4 m_5 =>
  st m_5 s0 4 (.slice a_4 (l_1l + 1) c_4) fun m_7 =>
  ldSl m_7 s0 4 fun l_8a l_8l l_8c =>
  rdRow m_7 c2a (c2l * 1) fun r_11 =>
  appendC m_7 1 8 [(.int .i64 0)] l_8a l_8l l_8c c2l r_11 fun a_9 c_9 m_10 =>
  st m_10 s0 4 (.slice a_9 (l_8l + c2l) c_9) fun m_12 =>
  ldSl m_12 s0 4 fun l_13a l_13l l_13c =>
  allocB m_12 (Blk.ofList [(.int .i64 0)]) fun b_14 m_15 =>
  rdRow m_15 (some ⟨b_14, 0, none⟩) (1 * 1) fun r_18 =>
  appendC m_15 1 8 [(.int .i64 0)] l_13a l_13l l_13c 1 r_18 fun a_16 c_16 m_17 =>
  st m_17 s0 4 (.slice a_16 (l_13l + 1) c_16) fun m_19 =>
  K (.tuple #[]) m_19)
  (ldSl m s0 4 fun l_20a l_20l l_20c =>
  rdRow m c2a (c2l * 1) fun r_23 =>
  appendC m 1 8 [(.int .i64 0)] l_20a l_20l l_20c c2l r_23 fun a_21 c_21 m_22 =>
  st m_22 s0 4 (.slice a_21 (l_20l + c2l) c_21) fun m_24 =>
  ldSl m_24 s0 4 fun l_25a l_25l l_25c =>
  allocB m_24 (Blk.ofList [(.int .i64 0)]) fun b_26 m_27 =>
  rdRow m_27 (some ⟨b_26, 0, none⟩) (1 * 1) fun r_30 =>
  appendC m_27 1 8 [(.int .i64 0)] l_25a l_25l l_25c 1 r_30 fun a_28 c_28 m_29 =>
  st m_29 s0 4 (.slice a_28 (l_25l + 1) c_28) fun m_31 =>
  K (.tuple #[]) m_31)
theorem e59 (C : CallT) (s0 : Nat) (del1 : Bool) (c2a : Option Addr) (c2l c2c : Nat) (K : Value → Mem → Prop) (m : Mem) : evFn Tryz.prog pureF pureT C [] 59 [(ptr s0 0), (.bool del1), (.slice c2a c2l c2c)] K m = s59 C s0 del1 c2a c2l c2c K m := by kernel_rfl
theorem call59 {W0 : World} {s0 : Nat} {del1 : Bool} {c2a : Option Addr} {c2l c2c : Nat} {K : Value → Mem → Prop} {m : Mem} (h : s59 (callOK Tryz.prog W0) s0 del1 c2a c2l c2c K m) : callOK Tryz.prog W0 59 [(ptr s0 0), (.bool del1), (.slice c2a c2l c2c)] K m :=
  evFn_sound pureOk mixedP (fun w => Tryz.call59 _ w) ((e59 (callOK Tryz.prog W0) s0 del1 c2a c2l c2c K m).symm ▸ h)

def s60 (C : CallT) (s0 : Nat) (level1 : Int) (K : Value → Mem → Prop) (m : Mem) : Prop :=
  ldPtr m s0 1 fun p_1 =>
  C 32 [(.pointer p_1)] (fun rm_3 m_3 =>
  ∃ x_2, rm_3 = (.int .i64 x_2) ∧
  loopE [0, 1, 5] (evCode (cfgOf Tryz.prog pureF pureT C [(2, [0, 1, 5])] 60) (codeAt (bodyOf Tryz.prog 60) [1, 0, 1, 0, 0])) (kAt (cfgOf Tryz.prog pureF pureT C [(2, [0, 1, 5])] 60) (bodyOf Tryz.prog 60) [1, 0, 1, 0] (endK Tryz.prog 60 K)) [(0, (ptr s0 0)), (1, (.int .i64 level1)), (5, (.int .i64 (IntKind.wrap .i64 (x_2 - 1))))] m_3) m
theorem e60 (C : CallT) (s0 : Nat) (level1 : Int) (K : Value → Mem → Prop) (m : Mem) : evFn Tryz.prog pureF pureT C [(2, [0, 1, 5])] 60 [(ptr s0 0), (.int .i64 level1)] K m = s60 C s0 level1 K m := by kernel_rfl
theorem call60 {W0 : World} {s0 : Nat} {level1 : Int} {K : Value → Mem → Prop} {m : Mem} (h : s60 (callOK Tryz.prog W0) s0 level1 K m) : callOK Tryz.prog W0 60 [(ptr s0 0), (.int .i64 level1)] K m :=
  evFn_sound pureOk mixedP (fun w => Tryz.call60 _ w) ((e60 (callOK Tryz.prog W0) s0 level1 K m).symm ▸ h)
def s60_1 (C : CallT) (s0 : Nat) (level1 : Int) (i5 : Int) (Kt : Exit → Fr → Mem → Prop) (m : Mem) : Prop :=
  ifB (decide (i5 ≥ 0))
  (ldPtr m s0 1 fun p_4 =>
  C 101 [(.pointer p_4), (.int .i64 i5)] (fun rm_6 m_6 =>
  ∃ x_5, rm_6 = (.int .i64 x_5) ∧
  ldPtr m_6 s0 1 fun p_7 =>
  C 112 [(.pointer p_7), (.int .i64 (goVar x_5))] (fun rm_9 m_9 =>
  ∃ x_8, rm_9 = (.int .i64 x_8) ∧
  ifB (decide (x_8 ≤ level1))
  (Kt (.exit 0) [(0, (ptr s0 0)), (1, (.int .i64 level1)), (5, (.int .i64 i5))] m_9)
  (ckI (goVar x_5) 13 fun j_10 =>
  st m_9 s0 (18 + j_10) (.int .i64 (-1)) fun m_11 =>
  ifB (decide (x_5 > 0))
  (ckI (goVar x_5) 13 fun j_12 =>
  st m_11 s0 (18 + j_12) (.int .i64 1) fun m_13 =>
  Kt .normal [(0, (ptr s0 0)), (1, (.int .i64 level1)), (5, (.int .i64 (IntKind.wrap .i64 (i5 - 1))))] m_13)
  (Kt .normal [(0, (ptr s0 0)), (1, (.int .i64 level1)), (5, (.int .i64 (IntKind.wrap .i64 (i5 - 1))))] m_11))) m_6) m)
  (Kt (.exit 0) [(0, (ptr s0 0)), (1, (.int .i64 level1)), (5, (.int .i64 i5))] m)
theorem e60_1 {C : CallT} {s0 : Nat} {level1 : Int} {i5 : Int} {Kt : Exit → Fr → Mem → Prop} {m : Mem} (h : s60_1 C s0 level1 i5 Kt m) : evCode (cfgOf Tryz.prog pureF pureT C [(2, [0, 1, 5])] 60) (codeAt (bodyOf Tryz.prog 60) [1, 0, 1, 0, 0]) (trimK [0, 1, 5] Kt) [(0, (ptr s0 0)), (1, (.int .i64 level1)), (5, (.int .i64 i5))] m :=
  (show _ = _ by kernel_rfl : evCode (cfgOf Tryz.prog pureF pureT C [(2, [0, 1, 5])] 60) (codeAt (bodyOf Tryz.prog 60) [1, 0, 1, 0, 0]) (trimK [0, 1, 5] Kt) [(0, (ptr s0 0)), (1, (.int .i64 level1)), (5, (.int .i64 i5))] m = s60_1 C s0 level1 i5 Kt m).symm ▸ h
def s60_1x0 (C : CallT) (s0 : Nat) (level1 : Int) (i5 : Int) (K : Value → Mem → Prop) (m : Mem) : Prop :=
  ldPtr m s0 1 fun p_14 =>
  C 113 [(.pointer p_14), (.int .i64 level1)] (fun rm_16 m_16 =>
  ∃ x_15, rm_16 = (.int .i64 x_15) ∧
  K (.tuple #[]) m_16) m
theorem e60_1x0 {C : CallT} {kn : Fr → Mem → Prop} {s0 : Nat} {level1 : Int} {i5 : Int} {K : Value → Mem → Prop} {m : Mem} : (andThenE kn (kAt (cfgOf Tryz.prog pureF pureT C [(2, [0, 1, 5])] 60) (bodyOf Tryz.prog 60) [1, 0, 1, 0] (endK Tryz.prog 60 K)) (.exit 0) [(0, (ptr s0 0)), (1, (.int .i64 level1)), (5, (.int .i64 i5))] m) = s60_1x0 C s0 level1 i5 K m := by kernel_rfl
def F60_1 (s0 : Nat) (level1 : Int) (i5 : Int) : Fr := [(0, (ptr s0 0)), (1, (.int .i64 level1)), (5, (.int .i64 i5))]
theorem loop60_1 {C : CallT} {γ : Type} {s0 : Nat} {level1 : Int} {K : Value → Mem → Prop} {m : Mem} (J : γ → Int → Mem → Prop) (μ : γ → Int → Nat) (g : γ) {i5 : Int} (hJ : J g i5 m)
    (hs : ∀ g i5 m, J g i5 m → s60_1 C s0 level1 i5 (andThenE (fun fr m' => ∃ g' i5', fr = F60_1 s0 level1 i5' ∧ J g' i5' m' ∧ μ g' i5' < μ g i5) (kAt (cfgOf Tryz.prog pureF pureT C [(2, [0, 1, 5])] 60) (bodyOf Tryz.prog 60) [1, 0, 1, 0] (endK Tryz.prog 60 K))) m) :
    loopE [0, 1, 5] (evCode (cfgOf Tryz.prog pureF pureT C [(2, [0, 1, 5])] 60) (codeAt (bodyOf Tryz.prog 60) [1, 0, 1, 0, 0])) (kAt (cfgOf Tryz.prog pureF pureT C [(2, [0, 1, 5])] 60) (bodyOf Tryz.prog 60) [1, 0, 1, 0] (endK Tryz.prog 60 K)) [(0, (ptr s0 0)), (1, (.int .i64 level1)), (5, (.int .i64 i5))] m := by
  refine loop_rule (σ := γ × Int) (fun s => F60_1 s0 level1 s.2) (fun s m => J s.1 s.2 m) (fun s => μ s.1 s.2) (g, i5) rfl hJ ?_
  intro s m hJ
  have h := hs s.1 s.2 m hJ
  refine e60_1 ?_
  refine Eq.mp (congrArg (fun B => s60_1 C s0 level1 s.2 (andThenE B (kAt (cfgOf Tryz.prog pureF pureT C [(2, [0, 1, 5])] 60) (bodyOf Tryz.prog 60) [1, 0, 1, 0] (endK Tryz.prog 60 K))) m) ?_) h
  funext fr m'
  apply propext
  constructor
  · rintro ⟨g', i5', h1, h2, h3⟩
    exact ⟨(g', i5'), h1, h2, h3⟩
  · rintro ⟨⟨g', i5'⟩, h1, h2, h3⟩
    exact ⟨g', i5', h1, h2, h3⟩

end Go.Proofs.Qxb6500974aGreat
