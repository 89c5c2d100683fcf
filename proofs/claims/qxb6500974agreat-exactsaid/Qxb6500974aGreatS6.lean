import Derived.Test.Qxb6500974aGreatPure
set_option linter.all false
set_option linter.unusedVariables false
set_option maxRecDepth 100000
namespace Go.Proofs.Qxb6500974aGreat
open Go.Eng

def s121 (C : CallT) (k0 : Nat) (s1 : Int) (K : Value → Mem → Prop) (m : Mem) : Prop :=
  ckI s1 64 fun j_1 =>
  ldInt .u16 m k0 (1 + j_1) fun x_2 =>
  ckI s1 64 fun j_3 =>
  ldInt .u16 m k0 (65 + j_3) fun x_4 =>
  ifB ((bOr .u16 x_2 x_4) == 0)
  (ldInt .i64 m k0 130 fun x_5 =>
  st m k0 130 (.int .i64 (IntKind.wrap .i64 (x_5 - 1))) fun m_6 =>
  ckI s1 64 fun j_7 =>
  st m_6 k0 (1 + j_7) (.int .u16 0) fun m_8 =>
  ckI s1 64 fun j_9 =>
  st m_8 k0 (65 + j_9) (.int .u16 0) fun m_10 =>
  ldInt .u64 m_10 k0 129 fun x_11 =>
  st m_10 k0 129 (.int .u64 (bAndNot .u64 x_11 (goSlotBit s1))) fun m_12 =>
  K (.tuple #[]) m_12)
  (ckI s1 64 fun j_13 =>
  st m k0 (1 + j_13) (.int .u16 0) fun m_14 =>
  ckI s1 64 fun j_15 =>
  st m_14 k0 (65 + j_15) (.int .u16 0) fun m_16 =>
  ldInt .u64 m_16 k0 129 fun x_17 =>
  st m_16 k0 129 (.int .u64 (bAndNot .u64 x_17 (goSlotBit s1))) fun m_18 =>
  K (.tuple #[]) m_18)
theorem e121 (C : CallT) (k0 : Nat) (s1 : Int) (K : Value → Mem → Prop) (m : Mem) : evFn Tryz.prog pureF pureT C [] 121 [(ptr k0 0), (.int .i64 s1)] K m = s121 C k0 s1 K m := by kernel_rfl
theorem call121 {W0 : World} {k0 : Nat} {s1 : Int} {K : Value → Mem → Prop} {m : Mem} (h : s121 (callOK Tryz.prog W0) k0 s1 K m) : callOK Tryz.prog W0 121 [(ptr k0 0), (.int .i64 s1)] K m :=
  evFn_sound pureOk mixedP (fun w => Tryz.call121 _ w) ((e121 (callOK Tryz.prog W0) k0 s1 K m).symm ▸ h)

def s122 (C : CallT) (k0 : Nat) (p1 : Int) (n2 : Int) (K : Value → Mem → Prop) (m : Mem) : Prop :=
  loopE [0, 6, 7, 8, 9] (evCode (cfgOf Tryz.prog pureF pureT C [(3, [0, 6, 7, 8, 9])] 122) (codeAt (bodyOf Tryz.prog 122) [1, 1, 0, 1, 0, 0])) (kAt (cfgOf Tryz.prog pureF pureT C [(3, [0, 6, 7, 8, 9])] 122) (bodyOf Tryz.prog 122) [1, 1, 0, 1, 0] (endK Tryz.prog 122 K)) [(0, (ptr k0 0)), (6, (.bool false)), (7, (.int .u16 n2)), (8, (.int .u16 p1)), (9, (.int .i64 0))] m
theorem e122 (C : CallT) (k0 : Nat) (p1 : Int) (n2 : Int) (K : Value → Mem → Prop) (m : Mem) : evFn Tryz.prog pureF pureT C [(3, [0, 6, 7, 8, 9])] 122 [(ptr k0 0), (.int .u16 p1), (.int .u16 n2)] K m = s122 C k0 p1 n2 K m := by kernel_rfl
theorem call122 {W0 : World} {k0 : Nat} {p1 : Int} {n2 : Int} {K : Value → Mem → Prop} {m : Mem} (h : s122 (callOK Tryz.prog W0) k0 p1 n2 K m) : callOK Tryz.prog W0 122 [(ptr k0 0), (.int .u16 p1), (.int .u16 n2)] K m :=
  evFn_sound pureOk mixedP (fun w => Tryz.call122 _ w) ((e122 (callOK Tryz.prog W0) k0 p1 n2 K m).symm ▸ h)
def s122_1 (C : CallT) (k0 : Nat) (t6 : Bool) (yes7 : Int) (no8 : Int) (round9 : Int) (Kt : Exit → Fr → Mem → Prop) (m : Mem) : Prop :=
  ifB (decide (round9 ≤ 12))
  (C 146 [(ptr k0 0), (.int .u16 yes7), (.int .u16 no8)] (fun rm_4 m_4 =>
  ∃ x_1 x_2 x_3, rm_4 = (.tuple #[(.int .u16 x_1), (.int .u16 x_2), (.bool x_3)]) ∧
  ifB x_3
  (Kt .ret [(0, (ptr k0 0)), (6, (.bool true)), (7, (.int .u16 yes7)), (8, (.int .u16 no8)), (9, (.int .i64 round9))] m_4)
  (ifB (x_1 == yes7)
  (ifB (x_2 == no8)
  (Kt .ret [(0, (ptr k0 0)), (6, (.bool false)), (7, (.int .u16 yes7)), (8, (.int .u16 no8)), (9, (.int .i64 round9))] m_4)
  (Kt .normal [(0, (ptr k0 0)), (6, (.bool t6)), (7, (.int .u16 x_1)), (8, (.int .u16 x_2)), (9, (.int .i64 (IntKind.wrap .i64 (round9 + 1))))] m_4))
  (Kt .normal [(0, (ptr k0 0)), (6, (.bool t6)), (7, (.int .u16 x_1)), (8, (.int .u16 x_2)), (9, (.int .i64 (IntKind.wrap .i64 (round9 + 1))))] m_4))) m)
  (Kt (.exit 0) [(0, (ptr k0 0)), (6, (.bool t6)), (7, (.int .u16 yes7)), (8, (.int .u16 no8)), (9, (.int .i64 round9))] m)
theorem e122_1 {C : CallT} {k0 : Nat} {t6 : Bool} {yes7 : Int} {no8 : Int} {round9 : Int} {Kt : Exit → Fr → Mem → Prop} {m : Mem} (h : s122_1 C k0 t6 yes7 no8 round9 Kt m) : evCode (cfgOf Tryz.prog pureF pureT C [(3, [0, 6, 7, 8, 9])] 122) (codeAt (bodyOf Tryz.prog 122) [1, 1, 0, 1, 0, 0]) (trimK [0, 6, 7, 8, 9] Kt) [(0, (ptr k0 0)), (6, (.bool t6)), (7, (.int .u16 yes7)), (8, (.int .u16 no8)), (9, (.int .i64 round9))] m :=
  (show _ = _ by kernel_rfl : evCode (cfgOf Tryz.prog pureF pureT C [(3, [0, 6, 7, 8, 9])] 122) (codeAt (bodyOf Tryz.prog 122) [1, 1, 0, 1, 0, 0]) (trimK [0, 6, 7, 8, 9] Kt) [(0, (ptr k0 0)), (6, (.bool t6)), (7, (.int .u16 yes7)), (8, (.int .u16 no8)), (9, (.int .i64 round9))] m = s122_1 C k0 t6 yes7 no8 round9 Kt m).symm ▸ h
def s122_1r (C : CallT) (k0 : Nat) (t6 : Bool) (yes7 : Int) (no8 : Int) (round9 : Int) (K : Value → Mem → Prop) (m : Mem) : Prop :=
  K (.bool t6) m
theorem e122_1r {C : CallT} {kn : Fr → Mem → Prop} {k0 : Nat} {t6 : Bool} {yes7 : Int} {no8 : Int} {round9 : Int} {K : Value → Mem → Prop} {m : Mem} : (andThenE kn (kAt (cfgOf Tryz.prog pureF pureT C [(3, [0, 6, 7, 8, 9])] 122) (bodyOf Tryz.prog 122) [1, 1, 0, 1, 0] (endK Tryz.prog 122 K)) .ret [(0, (ptr k0 0)), (6, (.bool t6)), (7, (.int .u16 yes7)), (8, (.int .u16 no8)), (9, (.int .i64 round9))] m) = s122_1r C k0 t6 yes7 no8 round9 K m := by kernel_rfl
def s122_1x0 (C : CallT) (k0 : Nat) (t6 : Bool) (yes7 : Int) (no8 : Int) (round9 : Int) (K : Value → Mem → Prop) (m : Mem) : Prop :=
  K (.bool false) m
theorem e122_1x0 {C : CallT} {kn : Fr → Mem → Prop} {k0 : Nat} {t6 : Bool} {yes7 : Int} {no8 : Int} {round9 : Int} {K : Value → Mem → Prop} {m : Mem} : (andThenE kn (kAt (cfgOf Tryz.prog pureF pureT C [(3, [0, 6, 7, 8, 9])] 122) (bodyOf Tryz.prog 122) [1, 1, 0, 1, 0] (endK Tryz.prog 122 K)) (.exit 0) [(0, (ptr k0 0)), (6, (.bool t6)), (7, (.int .u16 yes7)), (8, (.int .u16 no8)), (9, (.int .i64 round9))] m) = s122_1x0 C k0 t6 yes7 no8 round9 K m := by kernel_rfl
def F122_1 (k0 : Nat) (t6 : Bool) (yes7 : Int) (no8 : Int) (round9 : Int) : Fr := [(0, (ptr k0 0)), (6, (.bool t6)), (7, (.int .u16 yes7)), (8, (.int .u16 no8)), (9, (.int .i64 round9))]
theorem loop122_1 {C : CallT} {γ : Type} {k0 : Nat} {K : Value → Mem → Prop} {m : Mem} (J : γ → Bool → Int → Int → Int → Mem → Prop) (μ : γ → Bool → Int → Int → Int → Nat) (g : γ) {t6 : Bool} {yes7 : Int} {no8 : Int} {round9 : Int} (hJ : J g t6 yes7 no8 round9 m)
    (hs : ∀ g t6 yes7 no8 round9 m, J g t6 yes7 no8 round9 m → s122_1 C k0 t6 yes7 no8 round9 (andThenE (fun fr m' => ∃ g' t6' yes7' no8' round9', fr = F122_1 k0 t6' yes7' no8' round9' ∧ J g' t6' yes7' no8' round9' m' ∧ μ g' t6' yes7' no8' round9' < μ g t6 yes7 no8 round9) (kAt (cfgOf Tryz.prog pureF pureT C [(3, [0, 6, 7, 8, 9])] 122) (bodyOf Tryz.prog 122) [1, 1, 0, 1, 0] (endK Tryz.prog 122 K))) m) :
    loopE [0, 6, 7, 8, 9] (evCode (cfgOf Tryz.prog pureF pureT C [(3, [0, 6, 7, 8, 9])] 122) (codeAt (bodyOf Tryz.prog 122) [1, 1, 0, 1, 0, 0])) (kAt (cfgOf Tryz.prog pureF pureT C [(3, [0, 6, 7, 8, 9])] 122) (bodyOf Tryz.prog 122) [1, 1, 0, 1, 0] (endK Tryz.prog 122 K)) [(0, (ptr k0 0)), (6, (.bool t6)), (7, (.int .u16 yes7)), (8, (.int .u16 no8)), (9, (.int .i64 round9))] m := by
  refine loop_rule (σ := γ × Bool × Int × Int × Int) (fun s => F122_1 k0 s.2.1 s.2.2.1 s.2.2.2.1 s.2.2.2.2) (fun s m => J s.1 s.2.1 s.2.2.1 s.2.2.2.1 s.2.2.2.2 m) (fun s => μ s.1 s.2.1 s.2.2.1 s.2.2.2.1 s.2.2.2.2) (g, t6, yes7, no8, round9) rfl hJ ?_
  intro s m hJ
  have h := hs s.1 s.2.1 s.2.2.1 s.2.2.2.1 s.2.2.2.2 m hJ
  refine e122_1 ?_
  refine Eq.mp (congrArg (fun B => s122_1 C k0 s.2.1 s.2.2.1 s.2.2.2.1 s.2.2.2.2 (andThenE B (kAt (cfgOf Tryz.prog pureF pureT C [(3, [0, 6, 7, 8, 9])] 122) (bodyOf Tryz.prog 122) [1, 1, 0, 1, 0] (endK Tryz.prog 122 K))) m) ?_) h
  funext fr m'
  apply propext
  constructor
  · rintro ⟨g', t6', yes7', no8', round9', h1, h2, h3⟩
    exact ⟨(g', t6', yes7', no8', round9'), h1, h2, h3⟩
  · rintro ⟨⟨g', t6', yes7', no8', round9'⟩, h1, h2, h3⟩
    exact ⟨g', t6', yes7', no8', round9', h1, h2, h3⟩

def s123 (C : CallT) (cs0a : Option Addr) (cs0l cs0c : Nat) (pre1a : Option Addr) (pre1l pre1c : Nat) (last2 : Int) (flat3a : Option Addr) (flat3l flat3c : Nat) (K : Value → Mem → Prop) (m : Mem) : Prop :=
  C 147 [(.slice pre1a pre1l pre1c)] (fun rm_2 m_2 =>
  ∃ x_1a x_1l x_1c, rm_2 = (.slice x_1a x_1l x_1c) ∧
  C 148 [(.slice cs0a cs0l cs0c), (.int .i64 last2)] (fun rm_4 m_4 =>
  ∃ x_3, rm_4 = (.int .i64 x_3) ∧
  ifB (x_3 == 0)
  (C 149 [(.slice flat3a flat3l flat3c), (.bool false), (.slice x_1a x_1l x_1c)] (fun rm_6 m_6 =>
  ∃ x_5a x_5l x_5c, rm_6 = (.slice x_5a x_5l x_5c) ∧
  K (.slice x_5a x_5l x_5c) m_6) m_4)
  (C 133 [(.slice cs0a cs0l cs0c), (.slice x_1a x_1l x_1c)] (fun rm_8 m_8 =>
  ∃ x_7, rm_8 = (.bool x_7) ∧
  ifB x_7
  (C 149 [(.slice flat3a flat3l flat3c), (.bool false), (.slice x_1a x_1l x_1c)] (fun rm_10 m_10 =>
  ∃ x_9a x_9l x_9c, rm_10 = (.slice x_9a x_9l x_9c) ∧
  K (.slice x_9a x_9l x_9c) m_10) m_8)
  (C 52 [(.slice pre1a pre1l pre1c)] (fun rm_12 m_12 =>
  ∃ x_11a x_11l x_11c, rm_12 = (.slice x_11a x_11l x_11c) ∧
  allocB m_12 (Blk.ofList [(.int .i64 x_3)]) fun b_13 m_14 =>
  rdRow m_14 (some ⟨b_13, 0, none⟩) (1 * 1) fun r_17 =>
  appendC m_14 1 8 [(.int .i64 0)] x_11a x_11l x_11c 1 r_17 fun a_15 c_15 m_16 =>
  C 52 [(.slice pre1a pre1l pre1c)] (fun rm_19 m_19 =>
  ∃ x_18a x_18l x_18c, rm_19 = (.slice x_18a x_18l x_18c) ∧
  allocB m_19 (Blk.ofList [(.int .i64 (IntKind.wrap .i64 (0 - x_3)))]) fun b_20 m_21 =>
  rdRow m_21 (some ⟨b_20, 0, none⟩) (1 * 1) fun r_24 =>
  appendC m_21 1 8 [(.int .i64 0)] x_18a x_18l x_18c 1 r_24 fun a_22 c_22 m_23 =>
  C 123 [(.slice cs0a cs0l cs0c), (.slice a_15 (x_11l + 1) c_15), (.int .i64 x_3), (.slice flat3a flat3l flat3c)] (fun rm_26 m_26 =>
  ∃ x_25a x_25l x_25c, rm_26 = (.slice x_25a x_25l x_25c) ∧
  C 123 [(.slice cs0a cs0l cs0c), (.slice a_22 (x_18l + 1) c_22), (.int .i64 x_3), (.slice x_25a x_25l x_25c)] (fun rm_28 m_28 =>
  ∃ x_27a x_27l x_27c, rm_28 = (.slice x_27a x_27l x_27c) ∧
  C 149 [(.slice x_27a x_27l x_27c), (.bool false), (.slice x_1a x_1l x_1c)] (fun rm_30 m_30 =>
  ∃ x_29a x_29l x_29c, rm_30 = (.slice x_29a x_29l x_29c) ∧
  C 147 [(.slice a_15 (x_11l + 1) c_15)] (fun rm_32 m_32 =>
  ∃ x_31a x_31l x_31c, rm_32 = (.slice x_31a x_31l x_31c) ∧
  C 149 [(.slice x_29a x_29l x_29c), (.bool true), (.slice x_31a x_31l x_31c)] (fun rm_34 m_34 =>
  ∃ x_33a x_33l x_33c, rm_34 = (.slice x_33a x_33l x_33c) ∧
  C 147 [(.slice a_22 (x_18l + 1) c_22)] (fun rm_36 m_36 =>
  ∃ x_35a x_35l x_35c, rm_36 = (.slice x_35a x_35l x_35c) ∧
  C 149 [(.slice x_33a x_33l x_33c), (.bool true), (.slice x_35a x_35l x_35c)] (fun rm_38 m_38 =>
  ∃ x_37a x_37l x_37c, rm_38 = (.slice x_37a x_37l x_37c) ∧
  K (.slice x_37a x_37l x_37c) m_38) m_36) m_34) m_32) m_30) m_28) m_26) m_23) m_16) m_8)) m_4)) m_2) m
theorem e123 (C : CallT) (cs0a : Option Addr) (cs0l cs0c : Nat) (pre1a : Option Addr) (pre1l pre1c : Nat) (last2 : Int) (flat3a : Option Addr) (flat3l flat3c : Nat) (K : Value → Mem → Prop) (m : Mem) : evFn Tryz.prog pureF pureT C [] 123 [(.slice cs0a cs0l cs0c), (.slice pre1a pre1l pre1c), (.int .i64 last2), (.slice flat3a flat3l flat3c)] K m = s123 C cs0a cs0l cs0c pre1a pre1l pre1c last2 flat3a flat3l flat3c K m := by kernel_rfl
theorem call123 {W0 : World} {cs0a : Option Addr} {cs0l cs0c : Nat} {pre1a : Option Addr} {pre1l pre1c : Nat} {last2 : Int} {flat3a : Option Addr} {flat3l flat3c : Nat} {K : Value → Mem → Prop} {m : Mem} (h : s123 (callOK Tryz.prog W0) cs0a cs0l cs0c pre1a pre1l pre1c last2 flat3a flat3l flat3c K m) : callOK Tryz.prog W0 123 [(.slice cs0a cs0l cs0c), (.slice pre1a pre1l pre1c), (.int .i64 last2), (.slice flat3a flat3l flat3c)] K m :=
  evFn_sound pureOk mixedP (fun w => Tryz.call123 _ w) ((e123 (callOK Tryz.prog W0) cs0a cs0l cs0c pre1a pre1l pre1c last2 flat3a flat3l flat3c K m).symm ▸ h)

def s125 (C : CallT) (n0 : Int) (K : Value → Mem → Prop) (m : Mem) : Prop :=
  loopE [0, 2, 3] (evCode (cfgOf Tryz.prog pureF pureT C [(2, [0, 2, 3])] 125) (codeAt (bodyOf Tryz.prog 125) [1, 1, 0, 0, 0])) (kAt (cfgOf Tryz.prog pureF pureT C [(2, [0, 2, 3])] 125) (bodyOf Tryz.prog 125) [1, 1, 0, 0] (endK Tryz.prog 125 K)) [(0, (.int .i64 n0)), (2, (.int .i64 0)), (3, (.int .i64 0))] m
theorem e125 (C : CallT) (n0 : Int) (K : Value → Mem → Prop) (m : Mem) : evFn Tryz.prog pureF pureT C [(2, [0, 2, 3])] 125 [(.int .i64 n0)] K m = s125 C n0 K m := by kernel_rfl
theorem call125 {W0 : World} {n0 : Int} {K : Value → Mem → Prop} {m : Mem} (h : s125 (callOK Tryz.prog W0) n0 K m) : callOK Tryz.prog W0 125 [(.int .i64 n0)] K m :=
  evFn_sound pureOk mixedP (fun w => Tryz.call125 _ w) ((e125 (callOK Tryz.prog W0) n0 K m).symm ▸ h)
def s125_1 (C : CallT) (n0 : Int) (t2 : Int) (r3 : Int) (Kt : Exit → Fr → Mem → Prop) (m : Mem) : Prop :=
  ifB (decide (r3 < 4))
  (ifB (decide (n0 < (goInterval r3)))
  (Kt .ret [(0, (.int .i64 n0)), (2, (.int .i64 r3)), (3, (.int .i64 r3))] m)
  (Kt .normal [(0, (.int .i64 (IntKind.wrap .i64 (n0 - (goInterval r3))))), (2, (.int .i64 t2)), (3, (.int .i64 (IntKind.wrap .i64 (r3 + 1))))] m))
  (Kt (.exit 0) [(0, (.int .i64 n0)), (2, (.int .i64 t2)), (3, (.int .i64 r3))] m)
theorem e125_1 {C : CallT} {n0 : Int} {t2 : Int} {r3 : Int} {Kt : Exit → Fr → Mem → Prop} {m : Mem} (h : s125_1 C n0 t2 r3 Kt m) : evCode (cfgOf Tryz.prog pureF pureT C [(2, [0, 2, 3])] 125) (codeAt (bodyOf Tryz.prog 125) [1, 1, 0, 0, 0]) (trimK [0, 2, 3] Kt) [(0, (.int .i64 n0)), (2, (.int .i64 t2)), (3, (.int .i64 r3))] m :=
  (show _ = _ by kernel_rfl : evCode (cfgOf Tryz.prog pureF pureT C [(2, [0, 2, 3])] 125) (codeAt (bodyOf Tryz.prog 125) [1, 1, 0, 0, 0]) (trimK [0, 2, 3] Kt) [(0, (.int .i64 n0)), (2, (.int .i64 t2)), (3, (.int .i64 r3))] m = s125_1 C n0 t2 r3 Kt m).symm ▸ h
def s125_1r (C : CallT) (n0 : Int) (t2 : Int) (r3 : Int) (K : Value → Mem → Prop) (m : Mem) : Prop :=
  K (.int .i64 t2) m
theorem e125_1r {C : CallT} {kn : Fr → Mem → Prop} {n0 : Int} {t2 : Int} {r3 : Int} {K : Value → Mem → Prop} {m : Mem} : (andThenE kn (kAt (cfgOf Tryz.prog pureF pureT C [(2, [0, 2, 3])] 125) (bodyOf Tryz.prog 125) [1, 1, 0, 0] (endK Tryz.prog 125 K)) .ret [(0, (.int .i64 n0)), (2, (.int .i64 t2)), (3, (.int .i64 r3))] m) = s125_1r C n0 t2 r3 K m := by kernel_rfl
def s125_1x0 (C : CallT) (n0 : Int) (t2 : Int) (r3 : Int) (K : Value → Mem → Prop) (m : Mem) : Prop :=
  K (.int .i64 r3) m
theorem e125_1x0 {C : CallT} {kn : Fr → Mem → Prop} {n0 : Int} {t2 : Int} {r3 : Int} {K : Value → Mem → Prop} {m : Mem} : (andThenE kn (kAt (cfgOf Tryz.prog pureF pureT C [(2, [0, 2, 3])] 125) (bodyOf Tryz.prog 125) [1, 1, 0, 0] (endK Tryz.prog 125 K)) (.exit 0) [(0, (.int .i64 n0)), (2, (.int .i64 t2)), (3, (.int .i64 r3))] m) = s125_1x0 C n0 t2 r3 K m := by kernel_rfl
def F125_1 (n0 : Int) (t2 : Int) (r3 : Int) : Fr := [(0, (.int .i64 n0)), (2, (.int .i64 t2)), (3, (.int .i64 r3))]
theorem loop125_1 {C : CallT} {γ : Type}  {K : Value → Mem → Prop} {m : Mem} (J : γ → Int → Int → Int → Mem → Prop) (μ : γ → Int → Int → Int → Nat) (g : γ) {n0 : Int} {t2 : Int} {r3 : Int} (hJ : J g n0 t2 r3 m)
    (hs : ∀ g n0 t2 r3 m, J g n0 t2 r3 m → s125_1 C n0 t2 r3 (andThenE (fun fr m' => ∃ g' n0' t2' r3', fr = F125_1 n0' t2' r3' ∧ J g' n0' t2' r3' m' ∧ μ g' n0' t2' r3' < μ g n0 t2 r3) (kAt (cfgOf Tryz.prog pureF pureT C [(2, [0, 2, 3])] 125) (bodyOf Tryz.prog 125) [1, 1, 0, 0] (endK Tryz.prog 125 K))) m) :
    loopE [0, 2, 3] (evCode (cfgOf Tryz.prog pureF pureT C [(2, [0, 2, 3])] 125) (codeAt (bodyOf Tryz.prog 125) [1, 1, 0, 0, 0])) (kAt (cfgOf Tryz.prog pureF pureT C [(2, [0, 2, 3])] 125) (bodyOf Tryz.prog 125) [1, 1, 0, 0] (endK Tryz.prog 125 K)) [(0, (.int .i64 n0)), (2, (.int .i64 t2)), (3, (.int .i64 r3))] m := by
  refine loop_rule (σ := γ × Int × Int × Int) (fun s => F125_1 s.2.1 s.2.2.1 s.2.2.2) (fun s m => J s.1 s.2.1 s.2.2.1 s.2.2.2 m) (fun s => μ s.1 s.2.1 s.2.2.1 s.2.2.2) (g, n0, t2, r3) rfl hJ ?_
  intro s m hJ
  have h := hs s.1 s.2.1 s.2.2.1 s.2.2.2 m hJ
  refine e125_1 ?_
  refine Eq.mp (congrArg (fun B => s125_1 C s.2.1 s.2.2.1 s.2.2.2 (andThenE B (kAt (cfgOf Tryz.prog pureF pureT C [(2, [0, 2, 3])] 125) (bodyOf Tryz.prog 125) [1, 1, 0, 0] (endK Tryz.prog 125 K))) m) ?_) h
  funext fr m'
  apply propext
  constructor
  · rintro ⟨g', n0', t2', r3', h1, h2, h3⟩
    exact ⟨(g', n0', t2', r3'), h1, h2, h3⟩
  · rintro ⟨⟨g', n0', t2', r3'⟩, h1, h2, h3⟩
    exact ⟨g', n0', t2', r3', h1, h2, h3⟩

def s126 (C : CallT) (c0a : Option Addr) (c0l c0c : Nat) (mask1 : Int) (K : Value → Mem → Prop) (m : Mem) : Prop :=
  loopE [0, 1, 4, 5] (evCode (cfgOf Tryz.prog pureF pureT C [(2, [0, 1, 4, 5])] 126) (codeAt (bodyOf Tryz.prog 126) [1, 0, 1, 0, 0])) (kAt (cfgOf Tryz.prog pureF pureT C [(2, [0, 1, 4, 5])] 126) (bodyOf Tryz.prog 126) [1, 0, 1, 0] (endK Tryz.prog 126 K)) [(0, (.slice c0a c0l c0c)), (1, (.int .i64 mask1)), (4, (.bool false)), (5, (.int .i64 0))] m
theorem e126 (C : CallT) (c0a : Option Addr) (c0l c0c : Nat) (mask1 : Int) (K : Value → Mem → Prop) (m : Mem) : evFn Tryz.prog pureF pureT C [(2, [0, 1, 4, 5])] 126 [(.slice c0a c0l c0c), (.int .i64 mask1)] K m = s126 C c0a c0l c0c mask1 K m := by kernel_rfl
theorem call126 {W0 : World} {c0a : Option Addr} {c0l c0c : Nat} {mask1 : Int} {K : Value → Mem → Prop} {m : Mem} (h : s126 (callOK Tryz.prog W0) c0a c0l c0c mask1 K m) : callOK Tryz.prog W0 126 [(.slice c0a c0l c0c), (.int .i64 mask1)] K m :=
  evFn_sound pureOk mixedP (fun w => Tryz.call126 _ w) ((e126 (callOK Tryz.prog W0) c0a c0l c0c mask1 K m).symm ▸ h)
def s126_1 (C : CallT) (c0a : Option Addr) (c0l c0c : Nat) (mask1 : Int) (t4 : Bool) (i5 : Int) (Kt : Exit → Fr → Mem → Prop) (m : Mem) : Prop :=
  ifB (decide (i5 < ((c0l : Nat) : Int)))
  (ckP c0a fun b_1 o_1 =>
  ckI i5 c0l fun j_2 =>
  ldInt .i64 m b_1 (o_1 + j_2) fun x_3 =>
  ifB (goTrue x_3 mask1)
  (Kt .ret [(0, (.slice c0a c0l c0c)), (1, (.int .i64 mask1)), (4, (.bool true)), (5, (.int .i64 i5))] m)
  (Kt .normal [(0, (.slice c0a c0l c0c)), (1, (.int .i64 mask1)), (4, (.bool t4)), (5, (.int .i64 (IntKind.wrap .i64 (i5 + 1))))] m))
  (Kt (.exit 0) [(0, (.slice c0a c0l c0c)), (1, (.int .i64 mask1)), (4, (.bool t4)), (5, (.int .i64 i5))] m)
theorem e126_1 {C : CallT} {c0a : Option Addr} {c0l c0c : Nat} {mask1 : Int} {t4 : Bool} {i5 : Int} {Kt : Exit → Fr → Mem → Prop} {m : Mem} (h : s126_1 C c0a c0l c0c mask1 t4 i5 Kt m) : evCode (cfgOf Tryz.prog pureF pureT C [(2, [0, 1, 4, 5])] 126) (codeAt (bodyOf Tryz.prog 126) [1, 0, 1, 0, 0]) (trimK [0, 1, 4, 5] Kt) [(0, (.slice c0a c0l c0c)), (1, (.int .i64 mask1)), (4, (.bool t4)), (5, (.int .i64 i5))] m :=
  (show _ = _ by kernel_rfl : evCode (cfgOf Tryz.prog pureF pureT C [(2, [0, 1, 4, 5])] 126) (codeAt (bodyOf Tryz.prog 126) [1, 0, 1, 0, 0]) (trimK [0, 1, 4, 5] Kt) [(0, (.slice c0a c0l c0c)), (1, (.int .i64 mask1)), (4, (.bool t4)), (5, (.int .i64 i5))] m = s126_1 C c0a c0l c0c mask1 t4 i5 Kt m).symm ▸ h
def s126_1r (C : CallT) (c0a : Option Addr) (c0l c0c : Nat) (mask1 : Int) (t4 : Bool) (i5 : Int) (K : Value → Mem → Prop) (m : Mem) : Prop :=
  K (.bool t4) m
theorem e126_1r {C : CallT} {kn : Fr → Mem → Prop} {c0a : Option Addr} {c0l c0c : Nat} {mask1 : Int} {t4 : Bool} {i5 : Int} {K : Value → Mem → Prop} {m : Mem} : (andThenE kn (kAt (cfgOf Tryz.prog pureF pureT C [(2, [0, 1, 4, 5])] 126) (bodyOf Tryz.prog 126) [1, 0, 1, 0] (endK Tryz.prog 126 K)) .ret [(0, (.slice c0a c0l c0c)), (1, (.int .i64 mask1)), (4, (.bool t4)), (5, (.int .i64 i5))] m) = s126_1r C c0a c0l c0c mask1 t4 i5 K m := by kernel_rfl
def s126_1x0 (C : CallT) (c0a : Option Addr) (c0l c0c : Nat) (mask1 : Int) (t4 : Bool) (i5 : Int) (K : Value → Mem → Prop) (m : Mem) : Prop :=
  K (.bool false) m
theorem e126_1x0 {C : CallT} {kn : Fr → Mem → Prop} {c0a : Option Addr} {c0l c0c : Nat} {mask1 : Int} {t4 : Bool} {i5 : Int} {K : Value → Mem → Prop} {m : Mem} : (andThenE kn (kAt (cfgOf Tryz.prog pureF pureT C [(2, [0, 1, 4, 5])] 126) (bodyOf Tryz.prog 126) [1, 0, 1, 0] (endK Tryz.prog 126 K)) (.exit 0) [(0, (.slice c0a c0l c0c)), (1, (.int .i64 mask1)), (4, (.bool t4)), (5, (.int .i64 i5))] m) = s126_1x0 C c0a c0l c0c mask1 t4 i5 K m := by kernel_rfl
def F126_1 (c0a : Option Addr) (c0l c0c : Nat) (mask1 : Int) (t4 : Bool) (i5 : Int) : Fr := [(0, (.slice c0a c0l c0c)), (1, (.int .i64 mask1)), (4, (.bool t4)), (5, (.int .i64 i5))]
theorem loop126_1 {C : CallT} {γ : Type} {c0a : Option Addr} {c0l c0c : Nat} {mask1 : Int} {K : Value → Mem → Prop} {m : Mem} (J : γ → Bool → Int → Mem → Prop) (μ : γ → Bool → Int → Nat) (g : γ) {t4 : Bool} {i5 : Int} (hJ : J g t4 i5 m)
    (hs : ∀ g t4 i5 m, J g t4 i5 m → s126_1 C c0a c0l c0c mask1 t4 i5 (andThenE (fun fr m' => ∃ g' t4' i5', fr = F126_1 c0a c0l c0c mask1 t4' i5' ∧ J g' t4' i5' m' ∧ μ g' t4' i5' < μ g t4 i5) (kAt (cfgOf Tryz.prog pureF pureT C [(2, [0, 1, 4, 5])] 126) (bodyOf Tryz.prog 126) [1, 0, 1, 0] (endK Tryz.prog 126 K))) m) :
    loopE [0, 1, 4, 5] (evCode (cfgOf Tryz.prog pureF pureT C [(2, [0, 1, 4, 5])] 126) (codeAt (bodyOf Tryz.prog 126) [1, 0, 1, 0, 0])) (kAt (cfgOf Tryz.prog pureF pureT C [(2, [0, 1, 4, 5])] 126) (bodyOf Tryz.prog 126) [1, 0, 1, 0] (endK Tryz.prog 126 K)) [(0, (.slice c0a c0l c0c)), (1, (.int .i64 mask1)), (4, (.bool t4)), (5, (.int .i64 i5))] m := by
  refine loop_rule (σ := γ × Bool × Int) (fun s => F126_1 c0a c0l c0c mask1 s.2.1 s.2.2) (fun s m => J s.1 s.2.1 s.2.2 m) (fun s => μ s.1 s.2.1 s.2.2) (g, t4, i5) rfl hJ ?_
  intro s m hJ
  have h := hs s.1 s.2.1 s.2.2 m hJ
  refine e126_1 ?_
  refine Eq.mp (congrArg (fun B => s126_1 C c0a c0l c0c mask1 s.2.1 s.2.2 (andThenE B (kAt (cfgOf Tryz.prog pureF pureT C [(2, [0, 1, 4, 5])] 126) (bodyOf Tryz.prog 126) [1, 0, 1, 0] (endK Tryz.prog 126 K))) m) ?_) h
  funext fr m'
  apply propext
  constructor
  · rintro ⟨g', t4', i5', h1, h2, h3⟩
    exact ⟨(g', t4', i5'), h1, h2, h3⟩
  · rintro ⟨⟨g', t4', i5'⟩, h1, h2, h3⟩
    exact ⟨g', t4', i5', h1, h2, h3⟩

def s127 (C : CallT) (w0 : Nat) (K : Value → Mem → Prop) (m : Mem) : Prop :=
  loopE [0, 3, 4] (evCode (cfgOf Tryz.prog pureF pureT C [(3, [0, 3, 4]), (12, [0, 5, 6, 7])] 127) (codeAt (bodyOf Tryz.prog 127) [1, 1, 0, 1, 0, 0])) (kAt (cfgOf Tryz.prog pureF pureT C [(3, [0, 3, 4]), (12, [0, 5, 6, 7])] 127) (bodyOf Tryz.prog 127) [1, 1, 0, 1, 0] (endK Tryz.prog 127 K)) [(0, (ptr w0 0)), (3, (.int .i64 0)), (4, (.int .i64 0))] m
theorem e127 (C : CallT) (w0 : Nat) (K : Value → Mem → Prop) (m : Mem) : evFn Tryz.prog pureF pureT C [(3, [0, 3, 4]), (12, [0, 5, 6, 7])] 127 [(ptr w0 0)] K m = s127 C w0 K m := by kernel_rfl
theorem call127 {W0 : World} {w0 : Nat} {K : Value → Mem → Prop} {m : Mem} (h : s127 (callOK Tryz.prog W0) w0 K m) : callOK Tryz.prog W0 127 [(ptr w0 0)] K m :=
  evFn_sound pureOk mixedP (fun w => Tryz.call127 _ w) ((e127 (callOK Tryz.prog W0) w0 K m).symm ▸ h)
def s127_1 (C : CallT) (w0 : Nat) (n3 : Int) (id4 : Int) (Kt : Exit → Fr → Mem → Prop) (m : Mem) : Prop :=
  ifB (decide (id4 < 52))
  (ldInt .u64 m w0 677 fun x_1 =>
  ifB (goHas x_1 id4)
  (Kt .normal [(0, (ptr w0 0)), (3, (.int .i64 (IntKind.wrap .i64 (n3 + 1)))), (4, (.int .i64 (IntKind.wrap .i64 (id4 + 1))))] m)
  (Kt .normal [(0, (ptr w0 0)), (3, (.int .i64 n3)), (4, (.int .i64 (IntKind.wrap .i64 (id4 + 1))))] m))
  (Kt (.exit 0) [(0, (ptr w0 0)), (3, (.int .i64 n3)), (4, (.int .i64 id4))] m)
theorem e127_1 {C : CallT} {w0 : Nat} {n3 : Int} {id4 : Int} {Kt : Exit → Fr → Mem → Prop} {m : Mem} (h : s127_1 C w0 n3 id4 Kt m) : evCode (cfgOf Tryz.prog pureF pureT C [(3, [0, 3, 4]), (12, [0, 5, 6, 7])] 127) (codeAt (bodyOf Tryz.prog 127) [1, 1, 0, 1, 0, 0]) (trimK [0, 3, 4] Kt) [(0, (ptr w0 0)), (3, (.int .i64 n3)), (4, (.int .i64 id4))] m :=
  (show _ = _ by kernel_rfl : evCode (cfgOf Tryz.prog pureF pureT C [(3, [0, 3, 4]), (12, [0, 5, 6, 7])] 127) (codeAt (bodyOf Tryz.prog 127) [1, 1, 0, 1, 0, 0]) (trimK [0, 3, 4] Kt) [(0, (ptr w0 0)), (3, (.int .i64 n3)), (4, (.int .i64 id4))] m = s127_1 C w0 n3 id4 Kt m).symm ▸ h
def s127_1x0 (C : CallT) (w0 : Nat) (n3 : Int) (id4 : Int) (K : Value → Mem → Prop) (m : Mem) : Prop :=
  ifB (n3 == 0)
  (K (.slice none 0 0) m)
  (mkSlice m [(.int .i64 0)] 8 n3 n3 fun b_2 m_3 =>
  loopE [0, 5, 6, 7] (evCode (cfgOf Tryz.prog pureF pureT C [(3, [0, 3, 4]), (12, [0, 5, 6, 7])] 127) (codeAt (bodyOf Tryz.prog 127) [1, 1, 1, 1, 1, 1, 0, 1, 0, 0])) (kAt (cfgOf Tryz.prog pureF pureT C [(3, [0, 3, 4]), (12, [0, 5, 6, 7])] 127) (bodyOf Tryz.prog 127) [1, 1, 1, 1, 1, 1, 0, 1, 0] (endK Tryz.prog 127 K)) [(0, (ptr w0 0)), (5, (.slice (some ⟨b_2, 0, none⟩) (Int.toNat n3) (Int.toNat n3))), (6, (.int .i64 0)), (7, (.int .i64 0))] m_3)
theorem e127_1x0 {C : CallT} {kn : Fr → Mem → Prop} {w0 : Nat} {n3 : Int} {id4 : Int} {K : Value → Mem → Prop} {m : Mem} : (andThenE kn (kAt (cfgOf Tryz.prog pureF pureT C [(3, [0, 3, 4]), (12, [0, 5, 6, 7])] 127) (bodyOf Tryz.prog 127) [1, 1, 0, 1, 0] (endK Tryz.prog 127 K)) (.exit 0) [(0, (ptr w0 0)), (3, (.int .i64 n3)), (4, (.int .i64 id4))] m) = s127_1x0 C w0 n3 id4 K m := by kernel_rfl
def s127_2 (C : CallT) (w0 : Nat) (out5a : Option Addr) (out5l out5c : Nat) (k6 : Int) (id7 : Int) (Kt : Exit → Fr → Mem → Prop) (m : Mem) : Prop :=
  ifB (decide (id7 < 52))
  (ldInt .u64 m w0 677 fun x_4 =>
  ifB (goHas x_4 id7)
  (ckP out5a fun b_5 o_5 =>
  ckI k6 out5l fun j_6 =>
  st m b_5 (o_5 + j_6) (.int .i64 id7) fun m_7 =>
  Kt .normal [(0, (ptr w0 0)), (5, (.slice out5a out5l out5c)), (6, (.int .i64 (IntKind.wrap .i64 (k6 + 1)))), (7, (.int .i64 (IntKind.wrap .i64 (id7 + 1))))] m_7)
  (Kt .normal [(0, (ptr w0 0)), (5, (.slice out5a out5l out5c)), (6, (.int .i64 k6)), (7, (.int .i64 (IntKind.wrap .i64 (id7 + 1))))] m))
  (Kt (.exit 2) [(0, (ptr w0 0)), (5, (.slice out5a out5l out5c)), (6, (.int .i64 k6)), (7, (.int .i64 id7))] m)
theorem e127_2 {C : CallT} {w0 : Nat} {out5a : Option Addr} {out5l out5c : Nat} {k6 : Int} {id7 : Int} {Kt : Exit → Fr → Mem → Prop} {m : Mem} (h : s127_2 C w0 out5a out5l out5c k6 id7 Kt m) : evCode (cfgOf Tryz.prog pureF pureT C [(3, [0, 3, 4]), (12, [0, 5, 6, 7])] 127) (codeAt (bodyOf Tryz.prog 127) [1, 1, 1, 1, 1, 1, 0, 1, 0, 0]) (trimK [0, 5, 6, 7] Kt) [(0, (ptr w0 0)), (5, (.slice out5a out5l out5c)), (6, (.int .i64 k6)), (7, (.int .i64 id7))] m :=
  (show _ = _ by kernel_rfl : evCode (cfgOf Tryz.prog pureF pureT C [(3, [0, 3, 4]), (12, [0, 5, 6, 7])] 127) (codeAt (bodyOf Tryz.prog 127) [1, 1, 1, 1, 1, 1, 0, 1, 0, 0]) (trimK [0, 5, 6, 7] Kt) [(0, (ptr w0 0)), (5, (.slice out5a out5l out5c)), (6, (.int .i64 k6)), (7, (.int .i64 id7))] m = s127_2 C w0 out5a out5l out5c k6 id7 Kt m).symm ▸ h
def s127_2x2 (C : CallT) (w0 : Nat) (out5a : Option Addr) (out5l out5c : Nat) (k6 : Int) (id7 : Int) (K : Value → Mem → Prop) (m : Mem) : Prop :=
  K (.slice out5a out5l out5c) m
theorem e127_2x2 {C : CallT} {kn : Fr → Mem → Prop} {w0 : Nat} {out5a : Option Addr} {out5l out5c : Nat} {k6 : Int} {id7 : Int} {K : Value → Mem → Prop} {m : Mem} : (andThenE kn (kAt (cfgOf Tryz.prog pureF pureT C [(3, [0, 3, 4]), (12, [0, 5, 6, 7])] 127) (bodyOf Tryz.prog 127) [1, 1, 1, 1, 1, 1, 0, 1, 0] (endK Tryz.prog 127 K)) (.exit 2) [(0, (ptr w0 0)), (5, (.slice out5a out5l out5c)), (6, (.int .i64 k6)), (7, (.int .i64 id7))] m) = s127_2x2 C w0 out5a out5l out5c k6 id7 K m := by kernel_rfl
def F127_1 (w0 : Nat) (n3 : Int) (id4 : Int) : Fr := [(0, (ptr w0 0)), (3, (.int .i64 n3)), (4, (.int .i64 id4))]
theorem loop127_1 {C : CallT} {γ : Type} {w0 : Nat} {K : Value → Mem → Prop} {m : Mem} (J : γ → Int → Int → Mem → Prop) (μ : γ → Int → Int → Nat) (g : γ) {n3 : Int} {id4 : Int} (hJ : J g n3 id4 m)
    (hs : ∀ g n3 id4 m, J g n3 id4 m → s127_1 C w0 n3 id4 (andThenE (fun fr m' => ∃ g' n3' id4', fr = F127_1 w0 n3' id4' ∧ J g' n3' id4' m' ∧ μ g' n3' id4' < μ g n3 id4) (kAt (cfgOf Tryz.prog pureF pureT C [(3, [0, 3, 4]), (12, [0, 5, 6, 7])] 127) (bodyOf Tryz.prog 127) [1, 1, 0, 1, 0] (endK Tryz.prog 127 K))) m) :
    loopE [0, 3, 4] (evCode (cfgOf Tryz.prog pureF pureT C [(3, [0, 3, 4]), (12, [0, 5, 6, 7])] 127) (codeAt (bodyOf Tryz.prog 127) [1, 1, 0, 1, 0, 0])) (kAt (cfgOf Tryz.prog pureF pureT C [(3, [0, 3, 4]), (12, [0, 5, 6, 7])] 127) (bodyOf Tryz.prog 127) [1, 1, 0, 1, 0] (endK Tryz.prog 127 K)) [(0, (ptr w0 0)), (3, (.int .i64 n3)), (4, (.int .i64 id4))] m := by
  refine loop_rule (σ := γ × Int × Int) (fun s => F127_1 w0 s.2.1 s.2.2) (fun s m => J s.1 s.2.1 s.2.2 m) (fun s => μ s.1 s.2.1 s.2.2) (g, n3, id4) rfl hJ ?_
  intro s m hJ
  have h := hs s.1 s.2.1 s.2.2 m hJ
  refine e127_1 ?_
  refine Eq.mp (congrArg (fun B => s127_1 C w0 s.2.1 s.2.2 (andThenE B (kAt (cfgOf Tryz.prog pureF pureT C [(3, [0, 3, 4]), (12, [0, 5, 6, 7])] 127) (bodyOf Tryz.prog 127) [1, 1, 0, 1, 0] (endK Tryz.prog 127 K))) m) ?_) h
  funext fr m'
  apply propext
  constructor
  · rintro ⟨g', n3', id4', h1, h2, h3⟩
    exact ⟨(g', n3', id4'), h1, h2, h3⟩
  · rintro ⟨⟨g', n3', id4'⟩, h1, h2, h3⟩
    exact ⟨g', n3', id4', h1, h2, h3⟩
def F127_2 (w0 : Nat) (out5a : Option Addr) (out5l out5c : Nat) (k6 : Int) (id7 : Int) : Fr := [(0, (ptr w0 0)), (5, (.slice out5a out5l out5c)), (6, (.int .i64 k6)), (7, (.int .i64 id7))]
theorem loop127_2 {C : CallT} {γ : Type} {w0 : Nat} {out5a : Option Addr} {out5l out5c : Nat} {K : Value → Mem → Prop} {m : Mem} (J : γ → Int → Int → Mem → Prop) (μ : γ → Int → Int → Nat) (g : γ) {k6 : Int} {id7 : Int} (hJ : J g k6 id7 m)
    (hs : ∀ g k6 id7 m, J g k6 id7 m → s127_2 C w0 out5a out5l out5c k6 id7 (andThenE (fun fr m' => ∃ g' k6' id7', fr = F127_2 w0 out5a out5l out5c k6' id7' ∧ J g' k6' id7' m' ∧ μ g' k6' id7' < μ g k6 id7) (kAt (cfgOf Tryz.prog pureF pureT C [(3, [0, 3, 4]), (12, [0, 5, 6, 7])] 127) (bodyOf Tryz.prog 127) [1, 1, 1, 1, 1, 1, 0, 1, 0] (endK Tryz.prog 127 K))) m) :
    loopE [0, 5, 6, 7] (evCode (cfgOf Tryz.prog pureF pureT C [(3, [0, 3, 4]), (12, [0, 5, 6, 7])] 127) (codeAt (bodyOf Tryz.prog 127) [1, 1, 1, 1, 1, 1, 0, 1, 0, 0])) (kAt (cfgOf Tryz.prog pureF pureT C [(3, [0, 3, 4]), (12, [0, 5, 6, 7])] 127) (bodyOf Tryz.prog 127) [1, 1, 1, 1, 1, 1, 0, 1, 0] (endK Tryz.prog 127 K)) [(0, (ptr w0 0)), (5, (.slice out5a out5l out5c)), (6, (.int .i64 k6)), (7, (.int .i64 id7))] m := by
  refine loop_rule (σ := γ × Int × Int) (fun s => F127_2 w0 out5a out5l out5c s.2.1 s.2.2) (fun s m => J s.1 s.2.1 s.2.2 m) (fun s => μ s.1 s.2.1 s.2.2) (g, k6, id7) rfl hJ ?_
  intro s m hJ
  have h := hs s.1 s.2.1 s.2.2 m hJ
  refine e127_2 ?_
  refine Eq.mp (congrArg (fun B => s127_2 C w0 out5a out5l out5c s.2.1 s.2.2 (andThenE B (kAt (cfgOf Tryz.prog pureF pureT C [(3, [0, 3, 4]), (12, [0, 5, 6, 7])] 127) (bodyOf Tryz.prog 127) [1, 1, 1, 1, 1, 1, 0, 1, 0] (endK Tryz.prog 127 K))) m) ?_) h
  funext fr m'
  apply propext
  constructor
  · rintro ⟨g', k6', id7', h1, h2, h3⟩
    exact ⟨(g', k6', id7'), h1, h2, h3⟩
  · rintro ⟨⟨g', k6', id7'⟩, h1, h2, h3⟩
    exact ⟨g', k6', id7', h1, h2, h3⟩

def s129 (C : CallT) (text0 : ByteArray) (a1 : Int) (b2 : Int) (K : Value → Mem → Prop) (m : Mem) : Prop :=
  ckS text0 a1 fun ch_1 =>
  ifB (((UInt8.toNat ch_1 : Nat) : Int) == 45)
  (loopE [0, 1, 2, 6, 7, 8, 9, 10, 11, 12] (evCode (cfgOf Tryz.prog pureF pureT C [(6, [0, 1, 2, 6, 7, 8, 9, 10, 11, 12]), (14, [0, 1, 2, 11, 13, 14])] 129) (codeAt (bodyOf Tryz.prog 129) [1, 1, 1, 1, 0, 1, 0, 0])) (kAt (cfgOf Tryz.prog pureF pureT C [(6, [0, 1, 2, 6, 7, 8, 9, 10, 11, 12]), (14, [0, 1, 2, 11, 13, 14])] 129) (bodyOf Tryz.prog 129) [1, 1, 1, 1, 0, 1, 0] (endK Tryz.prog 129 K)) [(0, (.string text0)), (1, (.int .i64 a1)), (2, (.int .i64 b2)), (6, (.int .i64 0)), (7, (.bool false)), (8, (.int .i64 0)), (9, (.int .i64 0)), (10, (.int .i64 (IntKind.wrap .i64 (a1 + 1)))), (11, (.bool (((UInt8.toNat ch_1 : Nat) : Int) == 45))), (12, (.int .i64 (IntKind.wrap .i64 (a1 + 1))))] m)
  (loopE [0, 1, 2, 6, 7, 8, 9, 10, 11, 12] (evCode (cfgOf Tryz.prog pureF pureT C [(6, [0, 1, 2, 6, 7, 8, 9, 10, 11, 12]), (14, [0, 1, 2, 11, 13, 14])] 129) (codeAt (bodyOf Tryz.prog 129) [1, 1, 1, 1, 0, 1, 0, 0])) (kAt (cfgOf Tryz.prog pureF pureT C [(6, [0, 1, 2, 6, 7, 8, 9, 10, 11, 12]), (14, [0, 1, 2, 11, 13, 14])] 129) (bodyOf Tryz.prog 129) [1, 1, 1, 1, 0, 1, 0] (endK Tryz.prog 129 K)) [(0, (.string text0)), (1, (.int .i64 a1)), (2, (.int .i64 b2)), (6, (.int .i64 0)), (7, (.bool false)), (8, (.int .i64 0)), (9, (.int .i64 0)), (10, (.int .i64 a1)), (11, (.bool (((UInt8.toNat ch_1 : Nat) : Int) == 45))), (12, (.int .i64 a1))] m)
theorem e129 (C : CallT) (text0 : ByteArray) (a1 : Int) (b2 : Int) (K : Value → Mem → Prop) (m : Mem) : evFn Tryz.prog pureF pureT C [(6, [0, 1, 2, 6, 7, 8, 9, 10, 11, 12]), (14, [0, 1, 2, 11, 13, 14])] 129 [(.string text0), (.int .i64 a1), (.int .i64 b2)] K m = s129 C text0 a1 b2 K m := by kernel_rfl
theorem call129 {W0 : World} {text0 : ByteArray} {a1 : Int} {b2 : Int} {K : Value → Mem → Prop} {m : Mem} (h : s129 (callOK Tryz.prog W0) text0 a1 b2 K m) : callOK Tryz.prog W0 129 [(.string text0), (.int .i64 a1), (.int .i64 b2)] K m :=
  evFn_sound pureOk mixedP (fun w => Tryz.call129 _ w) ((e129 (callOK Tryz.prog W0) text0 a1 b2 K m).symm ▸ h)
def s129_1 (C : CallT) (text0 : ByteArray) (a1 : Int) (b2 : Int) (t6 : Int) (t7 : Bool) (t8 : Int) (t9 : Int) (i10 : Int) (neg11 : Bool) (k12 : Int) (Kt : Exit → Fr → Mem → Prop) (m : Mem) : Prop :=
  ifB (decide (k12 < b2))
  (ckS text0 k12 fun ch_2 =>
  ifB (decide (((UInt8.toNat ch_2 : Nat) : Int) < 48))
  (Kt .ret [(0, (.string text0)), (1, (.int .i64 a1)), (2, (.int .i64 b2)), (6, (.int .i64 0)), (7, (.bool false)), (8, (.int .i64 2)), (9, (.int .i64 k12)), (10, (.int .i64 i10)), (11, (.bool neg11)), (12, (.int .i64 k12))] m)
  (ckS text0 k12 fun ch_3 =>
  ifB (decide (((UInt8.toNat ch_3 : Nat) : Int) > 57))
  (Kt .ret [(0, (.string text0)), (1, (.int .i64 a1)), (2, (.int .i64 b2)), (6, (.int .i64 0)), (7, (.bool false)), (8, (.int .i64 2)), (9, (.int .i64 k12)), (10, (.int .i64 i10)), (11, (.bool neg11)), (12, (.int .i64 k12))] m)
  (Kt .normal [(0, (.string text0)), (1, (.int .i64 a1)), (2, (.int .i64 b2)), (6, (.int .i64 t6)), (7, (.bool t7)), (8, (.int .i64 t8)), (9, (.int .i64 t9)), (10, (.int .i64 i10)), (11, (.bool neg11)), (12, (.int .i64 (IntKind.wrap .i64 (k12 + 1))))] m)))
  (Kt (.exit 0) [(0, (.string text0)), (1, (.int .i64 a1)), (2, (.int .i64 b2)), (6, (.int .i64 t6)), (7, (.bool t7)), (8, (.int .i64 t8)), (9, (.int .i64 t9)), (10, (.int .i64 i10)), (11, (.bool neg11)), (12, (.int .i64 k12))] m)
theorem e129_1 {C : CallT} {text0 : ByteArray} {a1 : Int} {b2 : Int} {t6 : Int} {t7 : Bool} {t8 : Int} {t9 : Int} {i10 : Int} {neg11 : Bool} {k12 : Int} {Kt : Exit → Fr → Mem → Prop} {m : Mem} (h : s129_1 C text0 a1 b2 t6 t7 t8 t9 i10 neg11 k12 Kt m) : evCode (cfgOf Tryz.prog pureF pureT C [(6, [0, 1, 2, 6, 7, 8, 9, 10, 11, 12]), (14, [0, 1, 2, 11, 13, 14])] 129) (codeAt (bodyOf Tryz.prog 129) [1, 1, 1, 1, 0, 1, 0, 0]) (trimK [0, 1, 2, 6, 7, 8, 9, 10, 11, 12] Kt) [(0, (.string text0)), (1, (.int .i64 a1)), (2, (.int .i64 b2)), (6, (.int .i64 t6)), (7, (.bool t7)), (8, (.int .i64 t8)), (9, (.int .i64 t9)), (10, (.int .i64 i10)), (11, (.bool neg11)), (12, (.int .i64 k12))] m :=
  (show _ = _ by kernel_rfl : evCode (cfgOf Tryz.prog pureF pureT C [(6, [0, 1, 2, 6, 7, 8, 9, 10, 11, 12]), (14, [0, 1, 2, 11, 13, 14])] 129) (codeAt (bodyOf Tryz.prog 129) [1, 1, 1, 1, 0, 1, 0, 0]) (trimK [0, 1, 2, 6, 7, 8, 9, 10, 11, 12] Kt) [(0, (.string text0)), (1, (.int .i64 a1)), (2, (.int .i64 b2)), (6, (.int .i64 t6)), (7, (.bool t7)), (8, (.int .i64 t8)), (9, (.int .i64 t9)), (10, (.int .i64 i10)), (11, (.bool neg11)), (12, (.int .i64 k12))] m = s129_1 C text0 a1 b2 t6 t7 t8 t9 i10 neg11 k12 Kt m).symm ▸ h
def s129_1r (C : CallT) (text0 : ByteArray) (a1 : Int) (b2 : Int) (t6 : Int) (t7 : Bool) (t8 : Int) (t9 : Int) (i10 : Int) (neg11 : Bool) (k12 : Int) (K : Value → Mem → Prop) (m : Mem) : Prop :=
  K (.tuple #[(.int .i64 t6), (.bool t7), (.int .i64 t8), (.int .i64 t9)]) m
theorem e129_1r {C : CallT} {kn : Fr → Mem → Prop} {text0 : ByteArray} {a1 : Int} {b2 : Int} {t6 : Int} {t7 : Bool} {t8 : Int} {t9 : Int} {i10 : Int} {neg11 : Bool} {k12 : Int} {K : Value → Mem → Prop} {m : Mem} : (andThenE kn (kAt (cfgOf Tryz.prog pureF pureT C [(6, [0, 1, 2, 6, 7, 8, 9, 10, 11, 12]), (14, [0, 1, 2, 11, 13, 14])] 129) (bodyOf Tryz.prog 129) [1, 1, 1, 1, 0, 1, 0] (endK Tryz.prog 129 K)) .ret [(0, (.string text0)), (1, (.int .i64 a1)), (2, (.int .i64 b2)), (6, (.int .i64 t6)), (7, (.bool t7)), (8, (.int .i64 t8)), (9, (.int .i64 t9)), (10, (.int .i64 i10)), (11, (.bool neg11)), (12, (.int .i64 k12))] m) = s129_1r C text0 a1 b2 t6 t7 t8 t9 i10 neg11 k12 K m := by kernel_rfl
def s129_1x0 (C : CallT) (text0 : ByteArray) (a1 : Int) (b2 : Int) (t6 : Int) (t7 : Bool) (t8 : Int) (t9 : Int) (i10 : Int) (neg11 : Bool) (k12 : Int) (K : Value → Mem → Prop) (m : Mem) : Prop :=
  ifB (i10 == b2)
  (K (.tuple #[(.int .i64 0), (.bool false), (.int .i64 3), (.int .i64 a1)]) m)
  (loopE [0, 1, 2, 11, 13, 14] (evCode (cfgOf Tryz.prog pureF pureT C [(6, [0, 1, 2, 6, 7, 8, 9, 10, 11, 12]), (14, [0, 1, 2, 11, 13, 14])] 129) (codeAt (bodyOf Tryz.prog 129) [1, 1, 1, 1, 1, 1, 1, 0, 1, 0, 0])) (kAt (cfgOf Tryz.prog pureF pureT C [(6, [0, 1, 2, 6, 7, 8, 9, 10, 11, 12]), (14, [0, 1, 2, 11, 13, 14])] 129) (bodyOf Tryz.prog 129) [1, 1, 1, 1, 1, 1, 1, 0, 1, 0] (endK Tryz.prog 129 K)) [(0, (.string text0)), (1, (.int .i64 a1)), (2, (.int .i64 b2)), (11, (.bool neg11)), (13, (.int .i64 0)), (14, (.int .i64 i10))] m)
theorem e129_1x0 {C : CallT} {kn : Fr → Mem → Prop} {text0 : ByteArray} {a1 : Int} {b2 : Int} {t6 : Int} {t7 : Bool} {t8 : Int} {t9 : Int} {i10 : Int} {neg11 : Bool} {k12 : Int} {K : Value → Mem → Prop} {m : Mem} : (andThenE kn (kAt (cfgOf Tryz.prog pureF pureT C [(6, [0, 1, 2, 6, 7, 8, 9, 10, 11, 12]), (14, [0, 1, 2, 11, 13, 14])] 129) (bodyOf Tryz.prog 129) [1, 1, 1, 1, 0, 1, 0] (endK Tryz.prog 129 K)) (.exit 0) [(0, (.string text0)), (1, (.int .i64 a1)), (2, (.int .i64 b2)), (6, (.int .i64 t6)), (7, (.bool t7)), (8, (.int .i64 t8)), (9, (.int .i64 t9)), (10, (.int .i64 i10)), (11, (.bool neg11)), (12, (.int .i64 k12))] m) = s129_1x0 C text0 a1 b2 t6 t7 t8 t9 i10 neg11 k12 K m := by kernel_rfl
def s129_2 (C : CallT) (text0 : ByteArray) (a1 : Int) (b2 : Int) (neg11 : Bool) (v13 : Int) (k14 : Int) (Kt : Exit → Fr → Mem → Prop) (m : Mem) : Prop :=
  ifB (decide (k14 < b2))
  (ckS text0 k14 fun ch_4 =>
  ifB (decide ((IntKind.wrap .i64 ((IntKind.wrap .i64 (v13 * 10)) + (IntKind.wrap .i64 (IntKind.wrap .u8 (((UInt8.toNat ch_4 : Nat) : Int) - 48))))) > 12))
  (Kt .normal [(0, (.string text0)), (1, (.int .i64 a1)), (2, (.int .i64 b2)), (11, (.bool neg11)), (13, (.int .i64 13)), (14, (.int .i64 (IntKind.wrap .i64 (k14 + 1))))] m)
  (Kt .normal [(0, (.string text0)), (1, (.int .i64 a1)), (2, (.int .i64 b2)), (11, (.bool neg11)), (13, (.int .i64 (IntKind.wrap .i64 ((IntKind.wrap .i64 (v13 * 10)) + (IntKind.wrap .i64 (IntKind.wrap .u8 (((UInt8.toNat ch_4 : Nat) : Int) - 48))))))), (14, (.int .i64 (IntKind.wrap .i64 (k14 + 1))))] m))
  (Kt (.exit 2) [(0, (.string text0)), (1, (.int .i64 a1)), (2, (.int .i64 b2)), (11, (.bool neg11)), (13, (.int .i64 v13)), (14, (.int .i64 k14))] m)
theorem e129_2 {C : CallT} {text0 : ByteArray} {a1 : Int} {b2 : Int} {neg11 : Bool} {v13 : Int} {k14 : Int} {Kt : Exit → Fr → Mem → Prop} {m : Mem} (h : s129_2 C text0 a1 b2 neg11 v13 k14 Kt m) : evCode (cfgOf Tryz.prog pureF pureT C [(6, [0, 1, 2, 6, 7, 8, 9, 10, 11, 12]), (14, [0, 1, 2, 11, 13, 14])] 129) (codeAt (bodyOf Tryz.prog 129) [1, 1, 1, 1, 1, 1, 1, 0, 1, 0, 0]) (trimK [0, 1, 2, 11, 13, 14] Kt) [(0, (.string text0)), (1, (.int .i64 a1)), (2, (.int .i64 b2)), (11, (.bool neg11)), (13, (.int .i64 v13)), (14, (.int .i64 k14))] m :=
  (show _ = _ by kernel_rfl : evCode (cfgOf Tryz.prog pureF pureT C [(6, [0, 1, 2, 6, 7, 8, 9, 10, 11, 12]), (14, [0, 1, 2, 11, 13, 14])] 129) (codeAt (bodyOf Tryz.prog 129) [1, 1, 1, 1, 1, 1, 1, 0, 1, 0, 0]) (trimK [0, 1, 2, 11, 13, 14] Kt) [(0, (.string text0)), (1, (.int .i64 a1)), (2, (.int .i64 b2)), (11, (.bool neg11)), (13, (.int .i64 v13)), (14, (.int .i64 k14))] m = s129_2 C text0 a1 b2 neg11 v13 k14 Kt m).symm ▸ h
def s129_2x2 (C : CallT) (text0 : ByteArray) (a1 : Int) (b2 : Int) (neg11 : Bool) (v13 : Int) (k14 : Int) (K : Value → Mem → Prop) (m : Mem) : Prop :=
  ifB (v13 == 0)
  (ifB neg11
  (K (.tuple #[(.int .i64 0), (.bool false), (.int .i64 3), (.int .i64 a1)]) m)
  (ifB (decide (v13 > 12))
  (K (.tuple #[(.int .i64 0), (.bool false), (.int .i64 4), (.int .i64 a1)]) m)
  (K (.tuple #[(.int .i64 v13), (.bool neg11), (.int .i64 0), (.int .i64 0)]) m)))
  (ifB (decide (v13 > 12))
  (K (.tuple #[(.int .i64 0), (.bool false), (.int .i64 4), (.int .i64 a1)]) m)
  (K (.tuple #[(.int .i64 v13), (.bool neg11), (.int .i64 0), (.int .i64 0)]) m))
theorem e129_2x2 {C : CallT} {kn : Fr → Mem → Prop} {text0 : ByteArray} {a1 : Int} {b2 : Int} {neg11 : Bool} {v13 : Int} {k14 : Int} {K : Value → Mem → Prop} {m : Mem} : (andThenE kn (kAt (cfgOf Tryz.prog pureF pureT C [(6, [0, 1, 2, 6, 7, 8, 9, 10, 11, 12]), (14, [0, 1, 2, 11, 13, 14])] 129) (bodyOf Tryz.prog 129) [1, 1, 1, 1, 1, 1, 1, 0, 1, 0] (endK Tryz.prog 129 K)) (.exit 2) [(0, (.string text0)), (1, (.int .i64 a1)), (2, (.int .i64 b2)), (11, (.bool neg11)), (13, (.int .i64 v13)), (14, (.int .i64 k14))] m) = s129_2x2 C text0 a1 b2 neg11 v13 k14 K m := by kernel_rfl
def F129_1 (text0 : ByteArray) (a1 : Int) (b2 : Int) (t6 : Int) (t7 : Bool) (t8 : Int) (t9 : Int) (i10 : Int) (neg11 : Bool) (k12 : Int) : Fr := [(0, (.string text0)), (1, (.int .i64 a1)), (2, (.int .i64 b2)), (6, (.int .i64 t6)), (7, (.bool t7)), (8, (.int .i64 t8)), (9, (.int .i64 t9)), (10, (.int .i64 i10)), (11, (.bool neg11)), (12, (.int .i64 k12))]
theorem loop129_1 {C : CallT} {γ : Type} {text0 : ByteArray} {a1 : Int} {b2 : Int} {i10 : Int} {neg11 : Bool} {K : Value → Mem → Prop} {m : Mem} (J : γ → Int → Bool → Int → Int → Int → Mem → Prop) (μ : γ → Int → Bool → Int → Int → Int → Nat) (g : γ) {t6 : Int} {t7 : Bool} {t8 : Int} {t9 : Int} {k12 : Int} (hJ : J g t6 t7 t8 t9 k12 m)
    (hs : ∀ g t6 t7 t8 t9 k12 m, J g t6 t7 t8 t9 k12 m → s129_1 C text0 a1 b2 t6 t7 t8 t9 i10 neg11 k12 (andThenE (fun fr m' => ∃ g' t6' t7' t8' t9' k12', fr = F129_1 text0 a1 b2 t6' t7' t8' t9' i10 neg11 k12' ∧ J g' t6' t7' t8' t9' k12' m' ∧ μ g' t6' t7' t8' t9' k12' < μ g t6 t7 t8 t9 k12) (kAt (cfgOf Tryz.prog pureF pureT C [(6, [0, 1, 2, 6, 7, 8, 9, 10, 11, 12]), (14, [0, 1, 2, 11, 13, 14])] 129) (bodyOf Tryz.prog 129) [1, 1, 1, 1, 0, 1, 0] (endK Tryz.prog 129 K))) m) :
    loopE [0, 1, 2, 6, 7, 8, 9, 10, 11, 12] (evCode (cfgOf Tryz.prog pureF pureT C [(6, [0, 1, 2, 6, 7, 8, 9, 10, 11, 12]), (14, [0, 1, 2, 11, 13, 14])] 129) (codeAt (bodyOf Tryz.prog 129) [1, 1, 1, 1, 0, 1, 0, 0])) (kAt (cfgOf Tryz.prog pureF pureT C [(6, [0, 1, 2, 6, 7, 8, 9, 10, 11, 12]), (14, [0, 1, 2, 11, 13, 14])] 129) (bodyOf Tryz.prog 129) [1, 1, 1, 1, 0, 1, 0] (endK Tryz.prog 129 K)) [(0, (.string text0)), (1, (.int .i64 a1)), (2, (.int .i64 b2)), (6, (.int .i64 t6)), (7, (.bool t7)), (8, (.int .i64 t8)), (9, (.int .i64 t9)), (10, (.int .i64 i10)), (11, (.bool neg11)), (12, (.int .i64 k12))] m := by
  refine loop_rule (σ := γ × Int × Bool × Int × Int × Int) (fun s => F129_1 text0 a1 b2 s.2.1 s.2.2.1 s.2.2.2.1 s.2.2.2.2.1 i10 neg11 s.2.2.2.2.2) (fun s m => J s.1 s.2.1 s.2.2.1 s.2.2.2.1 s.2.2.2.2.1 s.2.2.2.2.2 m) (fun s => μ s.1 s.2.1 s.2.2.1 s.2.2.2.1 s.2.2.2.2.1 s.2.2.2.2.2) (g, t6, t7, t8, t9, k12) rfl hJ ?_
  intro s m hJ
  have h := hs s.1 s.2.1 s.2.2.1 s.2.2.2.1 s.2.2.2.2.1 s.2.2.2.2.2 m hJ
  refine e129_1 ?_
  refine Eq.mp (congrArg (fun B => s129_1 C text0 a1 b2 s.2.1 s.2.2.1 s.2.2.2.1 s.2.2.2.2.1 i10 neg11 s.2.2.2.2.2 (andThenE B (kAt (cfgOf Tryz.prog pureF pureT C [(6, [0, 1, 2, 6, 7, 8, 9, 10, 11, 12]), (14, [0, 1, 2, 11, 13, 14])] 129) (bodyOf Tryz.prog 129) [1, 1, 1, 1, 0, 1, 0] (endK Tryz.prog 129 K))) m) ?_) h
  funext fr m'
  apply propext
  constructor
  · rintro ⟨g', t6', t7', t8', t9', k12', h1, h2, h3⟩
    exact ⟨(g', t6', t7', t8', t9', k12'), h1, h2, h3⟩
  · rintro ⟨⟨g', t6', t7', t8', t9', k12'⟩, h1, h2, h3⟩
    exact ⟨g', t6', t7', t8', t9', k12', h1, h2, h3⟩
def F129_2 (text0 : ByteArray) (a1 : Int) (b2 : Int) (neg11 : Bool) (v13 : Int) (k14 : Int) : Fr := [(0, (.string text0)), (1, (.int .i64 a1)), (2, (.int .i64 b2)), (11, (.bool neg11)), (13, (.int .i64 v13)), (14, (.int .i64 k14))]
theorem loop129_2 {C : CallT} {γ : Type} {text0 : ByteArray} {a1 : Int} {b2 : Int} {neg11 : Bool} {K : Value → Mem → Prop} {m : Mem} (J : γ → Int → Int → Mem → Prop) (μ : γ → Int → Int → Nat) (g : γ) {v13 : Int} {k14 : Int} (hJ : J g v13 k14 m)
    (hs : ∀ g v13 k14 m, J g v13 k14 m → s129_2 C text0 a1 b2 neg11 v13 k14 (andThenE (fun fr m' => ∃ g' v13' k14', fr = F129_2 text0 a1 b2 neg11 v13' k14' ∧ J g' v13' k14' m' ∧ μ g' v13' k14' < μ g v13 k14) (kAt (cfgOf Tryz.prog pureF pureT C [(6, [0, 1, 2, 6, 7, 8, 9, 10, 11, 12]), (14, [0, 1, 2, 11, 13, 14])] 129) (bodyOf Tryz.prog 129) [1, 1, 1, 1, 1, 1, 1, 0, 1, 0] (endK Tryz.prog 129 K))) m) :
    loopE [0, 1, 2, 11, 13, 14] (evCode (cfgOf Tryz.prog pureF pureT C [(6, [0, 1, 2, 6, 7, 8, 9, 10, 11, 12]), (14, [0, 1, 2, 11, 13, 14])] 129) (codeAt (bodyOf Tryz.prog 129) [1, 1, 1, 1, 1, 1, 1, 0, 1, 0, 0])) (kAt (cfgOf Tryz.prog pureF pureT C [(6, [0, 1, 2, 6, 7, 8, 9, 10, 11, 12]), (14, [0, 1, 2, 11, 13, 14])] 129) (bodyOf Tryz.prog 129) [1, 1, 1, 1, 1, 1, 1, 0, 1, 0] (endK Tryz.prog 129 K)) [(0, (.string text0)), (1, (.int .i64 a1)), (2, (.int .i64 b2)), (11, (.bool neg11)), (13, (.int .i64 v13)), (14, (.int .i64 k14))] m := by
  refine loop_rule (σ := γ × Int × Int) (fun s => F129_2 text0 a1 b2 neg11 s.2.1 s.2.2) (fun s m => J s.1 s.2.1 s.2.2 m) (fun s => μ s.1 s.2.1 s.2.2) (g, v13, k14) rfl hJ ?_
  intro s m hJ
  have h := hs s.1 s.2.1 s.2.2 m hJ
  refine e129_2 ?_
  refine Eq.mp (congrArg (fun B => s129_2 C text0 a1 b2 neg11 s.2.1 s.2.2 (andThenE B (kAt (cfgOf Tryz.prog pureF pureT C [(6, [0, 1, 2, 6, 7, 8, 9, 10, 11, 12]), (14, [0, 1, 2, 11, 13, 14])] 129) (bodyOf Tryz.prog 129) [1, 1, 1, 1, 1, 1, 1, 0, 1, 0] (endK Tryz.prog 129 K))) m) ?_) h
  funext fr m'
  apply propext
  constructor
  · rintro ⟨g', v13', k14', h1, h2, h3⟩
    exact ⟨(g', v13', k14'), h1, h2, h3⟩
  · rintro ⟨⟨g', v13', k14'⟩, h1, h2, h3⟩
    exact ⟨g', v13', k14', h1, h2, h3⟩

def s130 (C : CallT) (row0a : Option Addr) (row0l row0c : Nat) (K : Value → Mem → Prop) (m : Mem) : Prop :=
  loopE [0, 2, 3, 4, 5] (evCode (cfgOf Tryz.prog pureF pureT C [(3, [0, 2, 3, 4, 5])] 130) (codeAt (bodyOf Tryz.prog 130) [1, 1, 0, 1, 0, 0])) (kAt (cfgOf Tryz.prog pureF pureT C [(3, [0, 2, 3, 4, 5])] 130) (bodyOf Tryz.prog 130) [1, 1, 0, 1, 0] (endK Tryz.prog 130 K)) [(0, (.slice row0a row0l row0c)), (2, (.slice none 0 0)), (3, (.bool false)), (4, (.slice none 0 0)), (5, (.int .i64 1))] m
theorem e130 (C : CallT) (row0a : Option Addr) (row0l row0c : Nat) (K : Value → Mem → Prop) (m : Mem) : evFn Tryz.prog pureF pureT C [(3, [0, 2, 3, 4, 5])] 130 [(.slice row0a row0l row0c)] K m = s130 C row0a row0l row0c K m := by kernel_rfl
theorem call130 {W0 : World} {row0a : Option Addr} {row0l row0c : Nat} {K : Value → Mem → Prop} {m : Mem} (h : s130 (callOK Tryz.prog W0) row0a row0l row0c K m) : callOK Tryz.prog W0 130 [(.slice row0a row0l row0c)] K m :=
  evFn_sound pureOk mixedP (fun w => Tryz.call130 _ w) ((e130 (callOK Tryz.prog W0) row0a row0l row0c K m).symm ▸ h)
def s130_1 (C : CallT) (row0a : Option Addr) (row0l row0c : Nat) (t2a : Option Addr) (t2l t2c : Nat) (t3 : Bool) (out4a : Option Addr) (out4l out4c : Nat) (v5 : Int) (Kt : Exit → Fr → Mem → Prop) (m : Mem) : Prop :=
  ifB (decide (v5 ≤ 12))
  (C 150 [(.slice row0a row0l row0c), (.int .i64 v5)] (fun rm_2 m_2 =>
  ∃ x_1, rm_2 = (.bool x_1) ∧
  C 150 [(.slice row0a row0l row0c), (.int .i64 (IntKind.wrap .i64 (0 - v5)))] (fun rm_4 m_4 =>
  ∃ x_3, rm_4 = (.bool x_3) ∧
  ifB x_1
  (ifB x_3
  (Kt .ret [(0, (.slice row0a row0l row0c)), (2, (.slice none 0 0)), (3, (.bool false)), (4, (.slice out4a out4l out4c)), (5, (.int .i64 v5))] m_4)
  (ifB x_1
  (allocB m_4 (Blk.ofList [(.int .i64 v5)]) fun b_5 m_6 =>
  rdRow m_6 (some ⟨b_5, 0, none⟩) (1 * 1) fun r_9 =>
  appendC m_6 1 8 [(.int .i64 0)] out4a out4l out4c 1 r_9 fun a_7 c_7 m_8 =>
  ifB x_3
  (allocB m_8 (Blk.ofList [(.int .i64 (IntKind.wrap .i64 (0 - v5)))]) fun b_10 m_11 =>
  rdRow m_11 (some ⟨b_10, 0, none⟩) (1 * 1) fun r_14 =>
  appendC m_11 1 8 [(.int .i64 0)] a_7 (out4l + 1) c_7 1 r_14 fun a_12 c_12 m_13 =>
  Kt .normal [(0, (.slice row0a row0l row0c)), (2, (.slice t2a t2l t2c)), (3, (.bool t3)), (4, (.slice a_12 ((out4l + 1) + 1) c_12)), (5, (.int .i64 (IntKind.wrap .i64 (v5 + 1))))] m_13)
  (Kt .normal [(0, (.slice row0a row0l row0c)), (2, (.slice t2a t2l t2c)), (3, (.bool t3)), (4, (.slice a_7 (out4l + 1) c_7)), (5, (.int .i64 (IntKind.wrap .i64 (v5 + 1))))] m_8))
  (ifB x_3
  (allocB m_4 (Blk.ofList [(.int .i64 (IntKind.wrap .i64 (0 - v5)))]) fun b_15 m_16 =>
  rdRow m_16 (some ⟨b_15, 0, none⟩) (1 * 1) fun r_19 =>
  appendC m_16 1 8 [(.int .i64 0)] out4a out4l out4c 1 r_19 fun a_17 c_17 m_18 =>
  Kt .normal [(0, (.slice row0a row0l row0c)), (2, (.slice t2a t2l t2c)), (3, (.bool t3)), (4, (.slice a_17 (out4l + 1) c_17)), (5, (.int .i64 (IntKind.wrap .i64 (v5 + 1))))] m_18)
  (Kt .normal [(0, (.slice row0a row0l row0c)), (2, (.slice t2a t2l t2c)), (3, (.bool t3)), (4, (.slice out4a out4l out4c)), (5, (.int .i64 (IntKind.wrap .i64 (v5 + 1))))] m_4))))
  (ifB x_1
  (allocB m_4 (Blk.ofList [(.int .i64 v5)]) fun b_20 m_21 =>
  rdRow m_21 (some ⟨b_20, 0, none⟩) (1 * 1) fun r_24 =>
  appendC m_21 1 8 [(.int .i64 0)] out4a out4l out4c 1 r_24 fun a_22 c_22 m_23 =>
  ifB x_3
  (allocB m_23 (Blk.ofList [(.int .i64 (IntKind.wrap .i64 (0 - v5)))]) fun b_25 m_26 =>
  rdRow m_26 (some ⟨b_25, 0, none⟩) (1 * 1) fun r_29 =>
  appendC m_26 1 8 [(.int .i64 0)] a_22 (out4l + 1) c_22 1 r_29 fun a_27 c_27 m_28 =>
  Kt .normal [(0, (.slice row0a row0l row0c)), (2, (.slice t2a t2l t2c)), (3, (.bool t3)), (4, (.slice a_27 ((out4l + 1) + 1) c_27)), (5, (.int .i64 (IntKind.wrap .i64 (v5 + 1))))] m_28)
  (Kt .normal [(0, (.slice row0a row0l row0c)), (2, (.slice t2a t2l t2c)), (3, (.bool t3)), (4, (.slice a_22 (out4l + 1) c_22)), (5, (.int .i64 (IntKind.wrap .i64 (v5 + 1))))] m_23))
  (ifB x_3
  (allocB m_4 (Blk.ofList [(.int .i64 (IntKind.wrap .i64 (0 - v5)))]) fun b_30 m_31 =>
  rdRow m_31 (some ⟨b_30, 0, none⟩) (1 * 1) fun r_34 =>
  appendC m_31 1 8 [(.int .i64 0)] out4a out4l out4c 1 r_34 fun a_32 c_32 m_33 =>
  Kt .normal [(0, (.slice row0a row0l row0c)), (2, (.slice t2a t2l t2c)), (3, (.bool t3)), (4, (.slice a_32 (out4l + 1) c_32)), (5, (.int .i64 (IntKind.wrap .i64 (v5 + 1))))] m_33)
  (Kt .normal [(0, (.slice row0a row0l row0c)), (2, (.slice t2a t2l t2c)), (3, (.bool t3)), (4, (.slice out4a out4l out4c)), (5, (.int .i64 (IntKind.wrap .i64 (v5 + 1))))] m_4)))) m_2) m)
  (Kt (.exit 0) [(0, (.slice row0a row0l row0c)), (2, (.slice t2a t2l t2c)), (3, (.bool t3)), (4, (.slice out4a out4l out4c)), (5, (.int .i64 v5))] m)
theorem e130_1 {C : CallT} {row0a : Option Addr} {row0l row0c : Nat} {t2a : Option Addr} {t2l t2c : Nat} {t3 : Bool} {out4a : Option Addr} {out4l out4c : Nat} {v5 : Int} {Kt : Exit → Fr → Mem → Prop} {m : Mem} (h : s130_1 C row0a row0l row0c t2a t2l t2c t3 out4a out4l out4c v5 Kt m) : evCode (cfgOf Tryz.prog pureF pureT C [(3, [0, 2, 3, 4, 5])] 130) (codeAt (bodyOf Tryz.prog 130) [1, 1, 0, 1, 0, 0]) (trimK [0, 2, 3, 4, 5] Kt) [(0, (.slice row0a row0l row0c)), (2, (.slice t2a t2l t2c)), (3, (.bool t3)), (4, (.slice out4a out4l out4c)), (5, (.int .i64 v5))] m :=
  (show _ = _ by kernel_rfl : evCode (cfgOf Tryz.prog pureF pureT C [(3, [0, 2, 3, 4, 5])] 130) (codeAt (bodyOf Tryz.prog 130) [1, 1, 0, 1, 0, 0]) (trimK [0, 2, 3, 4, 5] Kt) [(0, (.slice row0a row0l row0c)), (2, (.slice t2a t2l t2c)), (3, (.bool t3)), (4, (.slice out4a out4l out4c)), (5, (.int .i64 v5))] m = s130_1 C row0a row0l row0c t2a t2l t2c t3 out4a out4l out4c v5 Kt m).symm ▸ h
def s130_1r (C : CallT) (row0a : Option Addr) (row0l row0c : Nat) (t2a : Option Addr) (t2l t2c : Nat) (t3 : Bool) (out4a : Option Addr) (out4l out4c : Nat) (v5 : Int) (K : Value → Mem → Prop) (m : Mem) : Prop :=
  K (.tuple #[(.slice t2a t2l t2c), (.bool t3)]) m
theorem e130_1r {C : CallT} {kn : Fr → Mem → Prop} {row0a : Option Addr} {row0l row0c : Nat} {t2a : Option Addr} {t2l t2c : Nat} {t3 : Bool} {out4a : Option Addr} {out4l out4c : Nat} {v5 : Int} {K : Value → Mem → Prop} {m : Mem} : (andThenE kn (kAt (cfgOf Tryz.prog pureF pureT C [(3, [0, 2, 3, 4, 5])] 130) (bodyOf Tryz.prog 130) [1, 1, 0, 1, 0] (endK Tryz.prog 130 K)) .ret [(0, (.slice row0a row0l row0c)), (2, (.slice t2a t2l t2c)), (3, (.bool t3)), (4, (.slice out4a out4l out4c)), (5, (.int .i64 v5))] m) = s130_1r C row0a row0l row0c t2a t2l t2c t3 out4a out4l out4c v5 K m := by kernel_rfl
def s130_1x0 (C : CallT) (row0a : Option Addr) (row0l row0c : Nat) (t2a : Option Addr) (t2l t2c : Nat) (t3 : Bool) (out4a : Option Addr) (out4l out4c : Nat) (v5 : Int) (K : Value → Mem → Prop) (m : Mem) : Prop :=
  K (.tuple #[(.slice out4a out4l out4c), (.bool true)]) m
theorem e130_1x0 {C : CallT} {kn : Fr → Mem → Prop} {row0a : Option Addr} {row0l row0c : Nat} {t2a : Option Addr} {t2l t2c : Nat} {t3 : Bool} {out4a : Option Addr} {out4l out4c : Nat} {v5 : Int} {K : Value → Mem → Prop} {m : Mem} : (andThenE kn (kAt (cfgOf Tryz.prog pureF pureT C [(3, [0, 2, 3, 4, 5])] 130) (bodyOf Tryz.prog 130) [1, 1, 0, 1, 0] (endK Tryz.prog 130 K)) (.exit 0) [(0, (.slice row0a row0l row0c)), (2, (.slice t2a t2l t2c)), (3, (.bool t3)), (4, (.slice out4a out4l out4c)), (5, (.int .i64 v5))] m) = s130_1x0 C row0a row0l row0c t2a t2l t2c t3 out4a out4l out4c v5 K m := by kernel_rfl
def F130_1 (row0a : Option Addr) (row0l row0c : Nat) (t2a : Option Addr) (t2l t2c : Nat) (t3 : Bool) (out4a : Option Addr) (out4l out4c : Nat) (v5 : Int) : Fr := [(0, (.slice row0a row0l row0c)), (2, (.slice t2a t2l t2c)), (3, (.bool t3)), (4, (.slice out4a out4l out4c)), (5, (.int .i64 v5))]
theorem loop130_1 {C : CallT} {γ : Type} {row0a : Option Addr} {row0l row0c : Nat} {K : Value → Mem → Prop} {m : Mem} (J : γ → Option Addr → Nat → Nat → Bool → Option Addr → Nat → Nat → Int → Mem → Prop) (μ : γ → Option Addr → Nat → Nat → Bool → Option Addr → Nat → Nat → Int → Nat) (g : γ) {t2a : Option Addr} {t2l t2c : Nat} {t3 : Bool} {out4a : Option Addr} {out4l out4c : Nat} {v5 : Int} (hJ : J g t2a t2l t2c t3 out4a out4l out4c v5 m)
    (hs : ∀ g t2a t2l t2c t3 out4a out4l out4c v5 m, J g t2a t2l t2c t3 out4a out4l out4c v5 m → s130_1 C row0a row0l row0c t2a t2l t2c t3 out4a out4l out4c v5 (andThenE (fun fr m' => ∃ g' t2a' t2l' t2c' t3' out4a' out4l' out4c' v5', fr = F130_1 row0a row0l row0c t2a' t2l' t2c' t3' out4a' out4l' out4c' v5' ∧ J g' t2a' t2l' t2c' t3' out4a' out4l' out4c' v5' m' ∧ μ g' t2a' t2l' t2c' t3' out4a' out4l' out4c' v5' < μ g t2a t2l t2c t3 out4a out4l out4c v5) (kAt (cfgOf Tryz.prog pureF pureT C [(3, [0, 2, 3, 4, 5])] 130) (bodyOf Tryz.prog 130) [1, 1, 0, 1, 0] (endK Tryz.prog 130 K))) m) :
    loopE [0, 2, 3, 4, 5] (evCode (cfgOf Tryz.prog pureF pureT C [(3, [0, 2, 3, 4, 5])] 130) (codeAt (bodyOf Tryz.prog 130) [1, 1, 0, 1, 0, 0])) (kAt (cfgOf Tryz.prog pureF pureT C [(3, [0, 2, 3, 4, 5])] 130) (bodyOf Tryz.prog 130) [1, 1, 0, 1, 0] (endK Tryz.prog 130 K)) [(0, (.slice row0a row0l row0c)), (2, (.slice t2a t2l t2c)), (3, (.bool t3)), (4, (.slice out4a out4l out4c)), (5, (.int .i64 v5))] m := by
  refine loop_rule (σ := γ × Option Addr × Nat × Nat × Bool × Option Addr × Nat × Nat × Int) (fun s => F130_1 row0a row0l row0c s.2.1 s.2.2.1 s.2.2.2.1 s.2.2.2.2.1 s.2.2.2.2.2.1 s.2.2.2.2.2.2.1 s.2.2.2.2.2.2.2.1 s.2.2.2.2.2.2.2.2) (fun s m => J s.1 s.2.1 s.2.2.1 s.2.2.2.1 s.2.2.2.2.1 s.2.2.2.2.2.1 s.2.2.2.2.2.2.1 s.2.2.2.2.2.2.2.1 s.2.2.2.2.2.2.2.2 m) (fun s => μ s.1 s.2.1 s.2.2.1 s.2.2.2.1 s.2.2.2.2.1 s.2.2.2.2.2.1 s.2.2.2.2.2.2.1 s.2.2.2.2.2.2.2.1 s.2.2.2.2.2.2.2.2) (g, t2a, t2l, t2c, t3, out4a, out4l, out4c, v5) rfl hJ ?_
  intro s m hJ
  have h := hs s.1 s.2.1 s.2.2.1 s.2.2.2.1 s.2.2.2.2.1 s.2.2.2.2.2.1 s.2.2.2.2.2.2.1 s.2.2.2.2.2.2.2.1 s.2.2.2.2.2.2.2.2 m hJ
  refine e130_1 ?_
  refine Eq.mp (congrArg (fun B => s130_1 C row0a row0l row0c s.2.1 s.2.2.1 s.2.2.2.1 s.2.2.2.2.1 s.2.2.2.2.2.1 s.2.2.2.2.2.2.1 s.2.2.2.2.2.2.2.1 s.2.2.2.2.2.2.2.2 (andThenE B (kAt (cfgOf Tryz.prog pureF pureT C [(3, [0, 2, 3, 4, 5])] 130) (bodyOf Tryz.prog 130) [1, 1, 0, 1, 0] (endK Tryz.prog 130 K))) m) ?_) h
  funext fr m'
  apply propext
  constructor
  · rintro ⟨g', t2a', t2l', t2c', t3', out4a', out4l', out4c', v5', h1, h2, h3⟩
    exact ⟨(g', t2a', t2l', t2c', t3', out4a', out4l', out4c', v5'), h1, h2, h3⟩
  · rintro ⟨⟨g', t2a', t2l', t2c', t3', out4a', out4l', out4c', v5'⟩, h1, h2, h3⟩
    exact ⟨g', t2a', t2l', t2c', t3', out4a', out4l', out4c', v5', h1, h2, h3⟩

def s131 (C : CallT) (n0 : Int) (K : Value → Mem → Prop) (m : Mem) : Prop :=
  ifB (n0 == 0)
  (K (.string (ByteArray.mk #[48])) m)
  (allocB m (zeroBlk Tryz.prog 194) fun b_1 m_2 =>
  loopE [0, 3, 4, 5] (evCode (cfgOf Tryz.prog pureF pureT C [(6, [0, 3, 4, 5])] 131) (codeAt (bodyOf Tryz.prog 131) [1, 1, 1, 1, 1, 0, 0, 0])) (kAt (cfgOf Tryz.prog pureF pureT C [(6, [0, 3, 4, 5])] 131) (bodyOf Tryz.prog 131) [1, 1, 1, 1, 1, 0, 0] (endK Tryz.prog 131 K)) [(0, (.int .i64 n0)), (3, (.bool (decide (n0 < 0)))), (4, (ptr b_1 0)), (5, (.int .i64 24))] m_2)
theorem e131 (C : CallT) (n0 : Int) (K : Value → Mem → Prop) (m : Mem) : evFn Tryz.prog pureF pureT C [(6, [0, 3, 4, 5])] 131 [(.int .i64 n0)] K m = s131 C n0 K m := by kernel_rfl
theorem call131 {W0 : World} {n0 : Int} {K : Value → Mem → Prop} {m : Mem} (h : s131 (callOK Tryz.prog W0) n0 K m) : callOK Tryz.prog W0 131 [(.int .i64 n0)] K m :=
  evFn_sound pureOk mixedP (fun w => Tryz.call131 _ w) ((e131 (callOK Tryz.prog W0) n0 K m).symm ▸ h)
def s131_1 (C : CallT) (n0 : Int) (neg3 : Bool) (buf4 : Nat) (i5 : Int) (Kt : Exit → Fr → Mem → Prop) (m : Mem) : Prop :=
  ifB (n0 != 0)
  ((10 : Int) ≠ 0 ∧
  ifB (decide ((Int.tmod n0 10) < 0))
  (ckI (IntKind.wrap .i64 (i5 - 1)) 24 fun j_3 =>
  st m buf4 (0 + j_3) (.int .u8 (IntKind.wrap .u8 (IntKind.wrap .i64 (48 + (IntKind.wrap .i64 (0 - (Int.tmod n0 10))))))) fun m_4 =>
  (10 : Int) ≠ 0 ∧
  Kt .normal [(0, (.int .i64 (IntKind.wrap .i64 (Int.tdiv n0 10)))), (3, (.bool neg3)), (4, (ptr buf4 0)), (5, (.int .i64 (IntKind.wrap .i64 (i5 - 1))))] m_4)
  (ckI (IntKind.wrap .i64 (i5 - 1)) 24 fun j_5 =>
  st m buf4 (0 + j_5) (.int .u8 (IntKind.wrap .u8 (IntKind.wrap .i64 (48 + (Int.tmod n0 10))))) fun m_6 =>
  (10 : Int) ≠ 0 ∧
  Kt .normal [(0, (.int .i64 (IntKind.wrap .i64 (Int.tdiv n0 10)))), (3, (.bool neg3)), (4, (ptr buf4 0)), (5, (.int .i64 (IntKind.wrap .i64 (i5 - 1))))] m_6))
  (Kt (.exit 0) [(0, (.int .i64 n0)), (3, (.bool neg3)), (4, (ptr buf4 0)), (5, (.int .i64 i5))] m)
theorem e131_1 {C : CallT} {n0 : Int} {neg3 : Bool} {buf4 : Nat} {i5 : Int} {Kt : Exit → Fr → Mem → Prop} {m : Mem} (h : s131_1 C n0 neg3 buf4 i5 Kt m) : evCode (cfgOf Tryz.prog pureF pureT C [(6, [0, 3, 4, 5])] 131) (codeAt (bodyOf Tryz.prog 131) [1, 1, 1, 1, 1, 0, 0, 0]) (trimK [0, 3, 4, 5] Kt) [(0, (.int .i64 n0)), (3, (.bool neg3)), (4, (ptr buf4 0)), (5, (.int .i64 i5))] m :=
  (show _ = _ by kernel_rfl : evCode (cfgOf Tryz.prog pureF pureT C [(6, [0, 3, 4, 5])] 131) (codeAt (bodyOf Tryz.prog 131) [1, 1, 1, 1, 1, 0, 0, 0]) (trimK [0, 3, 4, 5] Kt) [(0, (.int .i64 n0)), (3, (.bool neg3)), (4, (ptr buf4 0)), (5, (.int .i64 i5))] m = s131_1 C n0 neg3 buf4 i5 Kt m).symm ▸ h
def s131_1x0 (C : CallT) (n0 : Int) (neg3 : Bool) (buf4 : Nat) (i5 : Int) (K : Value → Mem → Prop) (m : Mem) : Prop :=
  ifB neg3
  (ckI (IntKind.wrap .i64 (i5 - 1)) 24 fun j_7 =>
  st m buf4 (0 + j_7) (.int .u8 45) fun m_8 =>
  ckLe (IntKind.wrap .i64 (i5 - 1)) 24 fun n_9 =>
  rdBytes m_8 (slA (some ⟨buf4, 0, none⟩) n_9 24 1) (24 - n_9) fun s_10 =>
  K (.string s_10) m_8)
  (ckLe i5 24 fun n_11 =>
  rdBytes m (slA (some ⟨buf4, 0, none⟩) n_11 24 1) (24 - n_11) fun s_12 =>
  K (.string s_12) m)
theorem e131_1x0 {C : CallT} {kn : Fr → Mem → Prop} {n0 : Int} {neg3 : Bool} {buf4 : Nat} {i5 : Int} {K : Value → Mem → Prop} {m : Mem} : (andThenE kn (kAt (cfgOf Tryz.prog pureF pureT C [(6, [0, 3, 4, 5])] 131) (bodyOf Tryz.prog 131) [1, 1, 1, 1, 1, 0, 0] (endK Tryz.prog 131 K)) (.exit 0) [(0, (.int .i64 n0)), (3, (.bool neg3)), (4, (ptr buf4 0)), (5, (.int .i64 i5))] m) = s131_1x0 C n0 neg3 buf4 i5 K m := by kernel_rfl
def F131_1 (n0 : Int) (neg3 : Bool) (buf4 : Nat) (i5 : Int) : Fr := [(0, (.int .i64 n0)), (3, (.bool neg3)), (4, (ptr buf4 0)), (5, (.int .i64 i5))]
theorem loop131_1 {C : CallT} {γ : Type} {neg3 : Bool} {buf4 : Nat} {K : Value → Mem → Prop} {m : Mem} (J : γ → Int → Int → Mem → Prop) (μ : γ → Int → Int → Nat) (g : γ) {n0 : Int} {i5 : Int} (hJ : J g n0 i5 m)
    (hs : ∀ g n0 i5 m, J g n0 i5 m → s131_1 C n0 neg3 buf4 i5 (andThenE (fun fr m' => ∃ g' n0' i5', fr = F131_1 n0' neg3 buf4 i5' ∧ J g' n0' i5' m' ∧ μ g' n0' i5' < μ g n0 i5) (kAt (cfgOf Tryz.prog pureF pureT C [(6, [0, 3, 4, 5])] 131) (bodyOf Tryz.prog 131) [1, 1, 1, 1, 1, 0, 0] (endK Tryz.prog 131 K))) m) :
    loopE [0, 3, 4, 5] (evCode (cfgOf Tryz.prog pureF pureT C [(6, [0, 3, 4, 5])] 131) (codeAt (bodyOf Tryz.prog 131) [1, 1, 1, 1, 1, 0, 0, 0])) (kAt (cfgOf Tryz.prog pureF pureT C [(6, [0, 3, 4, 5])] 131) (bodyOf Tryz.prog 131) [1, 1, 1, 1, 1, 0, 0] (endK Tryz.prog 131 K)) [(0, (.int .i64 n0)), (3, (.bool neg3)), (4, (ptr buf4 0)), (5, (.int .i64 i5))] m := by
  refine loop_rule (σ := γ × Int × Int) (fun s => F131_1 s.2.1 neg3 buf4 s.2.2) (fun s m => J s.1 s.2.1 s.2.2 m) (fun s => μ s.1 s.2.1 s.2.2) (g, n0, i5) rfl hJ ?_
  intro s m hJ
  have h := hs s.1 s.2.1 s.2.2 m hJ
  refine e131_1 ?_
  refine Eq.mp (congrArg (fun B => s131_1 C s.2.1 neg3 buf4 s.2.2 (andThenE B (kAt (cfgOf Tryz.prog pureF pureT C [(6, [0, 3, 4, 5])] 131) (bodyOf Tryz.prog 131) [1, 1, 1, 1, 1, 0, 0] (endK Tryz.prog 131 K))) m) ?_) h
  funext fr m'
  apply propext
  constructor
  · rintro ⟨g', n0', i5', h1, h2, h3⟩
    exact ⟨(g', n0', i5'), h1, h2, h3⟩
  · rintro ⟨⟨g', n0', i5'⟩, h1, h2, h3⟩
    exact ⟨g', n0', i5', h1, h2, h3⟩

def s132 (C : CallT) (bag0a : Option Addr) (bag0l bag0c : Nat) (c1a : Option Addr) (c1l c1c : Nat) (K : Value → Mem → Prop) (m : Mem) : Prop :=
  loopE [0, 1, 4, 5, 6] (evCode (cfgOf Tryz.prog pureF pureT C [(2, [0, 1, 4, 5, 6])] 132) (codeAt (bodyOf Tryz.prog 132) [1, 0, 1, 0, 0])) (kAt (cfgOf Tryz.prog pureF pureT C [(2, [0, 1, 4, 5, 6])] 132) (bodyOf Tryz.prog 132) [1, 0, 1, 0] (endK Tryz.prog 132 K)) [(0, (.slice bag0a bag0l bag0c)), (1, (.slice c1a c1l c1c)), (4, (.slice none 0 0)), (5, (.bool false)), (6, (.int .i64 0))] m
theorem e132 (C : CallT) (bag0a : Option Addr) (bag0l bag0c : Nat) (c1a : Option Addr) (c1l c1c : Nat) (K : Value → Mem → Prop) (m : Mem) : evFn Tryz.prog pureF pureT C [(2, [0, 1, 4, 5, 6])] 132 [(.slice bag0a bag0l bag0c), (.slice c1a c1l c1c)] K m = s132 C bag0a bag0l bag0c c1a c1l c1c K m := by kernel_rfl
theorem call132 {W0 : World} {bag0a : Option Addr} {bag0l bag0c : Nat} {c1a : Option Addr} {c1l c1c : Nat} {K : Value → Mem → Prop} {m : Mem} (h : s132 (callOK Tryz.prog W0) bag0a bag0l bag0c c1a c1l c1c K m) : callOK Tryz.prog W0 132 [(.slice bag0a bag0l bag0c), (.slice c1a c1l c1c)] K m :=
  evFn_sound pureOk mixedP (fun w => Tryz.call132 _ w) ((e132 (callOK Tryz.prog W0) bag0a bag0l bag0c c1a c1l c1c K m).symm ▸ h)
def s132_1 (C : CallT) (bag0a : Option Addr) (bag0l bag0c : Nat) (c1a : Option Addr) (c1l c1c : Nat) (t4a : Option Addr) (t4l t4c : Nat) (t5 : Bool) (i6 : Int) (Kt : Exit → Fr → Mem → Prop) (m : Mem) : Prop :=
  ifB (decide (i6 < ((bag0l : Nat) : Int)))
  (ckP bag0a fun b_1 o_1 =>
  ckI i6 bag0l fun j_2 =>
  ldSl m b_1 (o_1 + j_2) fun l_3a l_3l l_3c =>
  C 18 [(.slice l_3a l_3l l_3c), (.slice c1a c1l c1c)] (fun rm_5 m_5 =>
  ∃ x_4, rm_5 = (.bool x_4) ∧
  ifB x_4
  (ckLe i6 bag0c fun n_6 =>
  rdRow m_5 (slA bag0a 0 bag0c 1) ((n_6 - 0) * 1) fun r_9 =>
  appendC m_5 1 24 [(.slice none 0 0)] none 0 0 (n_6 - 0) r_9 fun a_7 c_7 m_8 =>
  ckLe (IntKind.wrap .i64 (i6 + 1)) bag0l fun n_10 =>
  rdRow m_8 (slA bag0a n_10 bag0c 1) ((bag0l - n_10) * 1) fun r_13 =>
  appendC m_8 1 24 [(.slice none 0 0)] a_7 (0 + (n_6 - 0)) c_7 (bag0l - n_10) r_13 fun a_11 c_11 m_12 =>
  Kt .ret [(0, (.slice bag0a bag0l bag0c)), (1, (.slice c1a c1l c1c)), (4, (.slice a_11 ((0 + (n_6 - 0)) + (bag0l - n_10)) c_11)), (5, (.bool true)), (6, (.int .i64 i6))] m_12)
  (Kt .normal [(0, (.slice bag0a bag0l bag0c)), (1, (.slice c1a c1l c1c)), (4, (.slice t4a t4l t4c)), (5, (.bool t5)), (6, (.int .i64 (IntKind.wrap .i64 (i6 + 1))))] m_5)) m)
  (Kt (.exit 0) [(0, (.slice bag0a bag0l bag0c)), (1, (.slice c1a c1l c1c)), (4, (.slice t4a t4l t4c)), (5, (.bool t5)), (6, (.int .i64 i6))] m)
theorem e132_1 {C : CallT} {bag0a : Option Addr} {bag0l bag0c : Nat} {c1a : Option Addr} {c1l c1c : Nat} {t4a : Option Addr} {t4l t4c : Nat} {t5 : Bool} {i6 : Int} {Kt : Exit → Fr → Mem → Prop} {m : Mem} (h : s132_1 C bag0a bag0l bag0c c1a c1l c1c t4a t4l t4c t5 i6 Kt m) : evCode (cfgOf Tryz.prog pureF pureT C [(2, [0, 1, 4, 5, 6])] 132) (codeAt (bodyOf Tryz.prog 132) [1, 0, 1, 0, 0]) (trimK [0, 1, 4, 5, 6] Kt) [(0, (.slice bag0a bag0l bag0c)), (1, (.slice c1a c1l c1c)), (4, (.slice t4a t4l t4c)), (5, (.bool t5)), (6, (.int .i64 i6))] m :=
  (show _ = _ by kernel_rfl : evCode (cfgOf Tryz.prog pureF pureT C [(2, [0, 1, 4, 5, 6])] 132) (codeAt (bodyOf Tryz.prog 132) [1, 0, 1, 0, 0]) (trimK [0, 1, 4, 5, 6] Kt) [(0, (.slice bag0a bag0l bag0c)), (1, (.slice c1a c1l c1c)), (4, (.slice t4a t4l t4c)), (5, (.bool t5)), (6, (.int .i64 i6))] m = s132_1 C bag0a bag0l bag0c c1a c1l c1c t4a t4l t4c t5 i6 Kt m).symm ▸ h
def s132_1r (C : CallT) (bag0a : Option Addr) (bag0l bag0c : Nat) (c1a : Option Addr) (c1l c1c : Nat) (t4a : Option Addr) (t4l t4c : Nat) (t5 : Bool) (i6 : Int) (K : Value → Mem → Prop) (m : Mem) : Prop :=
  K (.tuple #[(.slice t4a t4l t4c), (.bool t5)]) m
theorem e132_1r {C : CallT} {kn : Fr → Mem → Prop} {bag0a : Option Addr} {bag0l bag0c : Nat} {c1a : Option Addr} {c1l c1c : Nat} {t4a : Option Addr} {t4l t4c : Nat} {t5 : Bool} {i6 : Int} {K : Value → Mem → Prop} {m : Mem} : (andThenE kn (kAt (cfgOf Tryz.prog pureF pureT C [(2, [0, 1, 4, 5, 6])] 132) (bodyOf Tryz.prog 132) [1, 0, 1, 0] (endK Tryz.prog 132 K)) .ret [(0, (.slice bag0a bag0l bag0c)), (1, (.slice c1a c1l c1c)), (4, (.slice t4a t4l t4c)), (5, (.bool t5)), (6, (.int .i64 i6))] m) = s132_1r C bag0a bag0l bag0c c1a c1l c1c t4a t4l t4c t5 i6 K m := by kernel_rfl
def s132_1x0 (C : CallT) (bag0a : Option Addr) (bag0l bag0c : Nat) (c1a : Option Addr) (c1l c1c : Nat) (t4a : Option Addr) (t4l t4c : Nat) (t5 : Bool) (i6 : Int) (K : Value → Mem → Prop) (m : Mem) : Prop :=
  K (.tuple #[(.slice bag0a bag0l bag0c), (.bool false)]) m
theorem e132_1x0 {C : CallT} {kn : Fr → Mem → Prop} {bag0a : Option Addr} {bag0l bag0c : Nat} {c1a : Option Addr} {c1l c1c : Nat} {t4a : Option Addr} {t4l t4c : Nat} {t5 : Bool} {i6 : Int} {K : Value → Mem → Prop} {m : Mem} : (andThenE kn (kAt (cfgOf Tryz.prog pureF pureT C [(2, [0, 1, 4, 5, 6])] 132) (bodyOf Tryz.prog 132) [1, 0, 1, 0] (endK Tryz.prog 132 K)) (.exit 0) [(0, (.slice bag0a bag0l bag0c)), (1, (.slice c1a c1l c1c)), (4, (.slice t4a t4l t4c)), (5, (.bool t5)), (6, (.int .i64 i6))] m) = s132_1x0 C bag0a bag0l bag0c c1a c1l c1c t4a t4l t4c t5 i6 K m := by kernel_rfl
def F132_1 (bag0a : Option Addr) (bag0l bag0c : Nat) (c1a : Option Addr) (c1l c1c : Nat) (t4a : Option Addr) (t4l t4c : Nat) (t5 : Bool) (i6 : Int) : Fr := [(0, (.slice bag0a bag0l bag0c)), (1, (.slice c1a c1l c1c)), (4, (.slice t4a t4l t4c)), (5, (.bool t5)), (6, (.int .i64 i6))]
theorem loop132_1 {C : CallT} {γ : Type} {bag0a : Option Addr} {bag0l bag0c : Nat} {c1a : Option Addr} {c1l c1c : Nat} {K : Value → Mem → Prop} {m : Mem} (J : γ → Option Addr → Nat → Nat → Bool → Int → Mem → Prop) (μ : γ → Option Addr → Nat → Nat → Bool → Int → Nat) (g : γ) {t4a : Option Addr} {t4l t4c : Nat} {t5 : Bool} {i6 : Int} (hJ : J g t4a t4l t4c t5 i6 m)
    (hs : ∀ g t4a t4l t4c t5 i6 m, J g t4a t4l t4c t5 i6 m → s132_1 C bag0a bag0l bag0c c1a c1l c1c t4a t4l t4c t5 i6 (andThenE (fun fr m' => ∃ g' t4a' t4l' t4c' t5' i6', fr = F132_1 bag0a bag0l bag0c c1a c1l c1c t4a' t4l' t4c' t5' i6' ∧ J g' t4a' t4l' t4c' t5' i6' m' ∧ μ g' t4a' t4l' t4c' t5' i6' < μ g t4a t4l t4c t5 i6) (kAt (cfgOf Tryz.prog pureF pureT C [(2, [0, 1, 4, 5, 6])] 132) (bodyOf Tryz.prog 132) [1, 0, 1, 0] (endK Tryz.prog 132 K))) m) :
    loopE [0, 1, 4, 5, 6] (evCode (cfgOf Tryz.prog pureF pureT C [(2, [0, 1, 4, 5, 6])] 132) (codeAt (bodyOf Tryz.prog 132) [1, 0, 1, 0, 0])) (kAt (cfgOf Tryz.prog pureF pureT C [(2, [0, 1, 4, 5, 6])] 132) (bodyOf Tryz.prog 132) [1, 0, 1, 0] (endK Tryz.prog 132 K)) [(0, (.slice bag0a bag0l bag0c)), (1, (.slice c1a c1l c1c)), (4, (.slice t4a t4l t4c)), (5, (.bool t5)), (6, (.int .i64 i6))] m := by
  refine loop_rule (σ := γ × Option Addr × Nat × Nat × Bool × Int) (fun s => F132_1 bag0a bag0l bag0c c1a c1l c1c s.2.1 s.2.2.1 s.2.2.2.1 s.2.2.2.2.1 s.2.2.2.2.2) (fun s m => J s.1 s.2.1 s.2.2.1 s.2.2.2.1 s.2.2.2.2.1 s.2.2.2.2.2 m) (fun s => μ s.1 s.2.1 s.2.2.1 s.2.2.2.1 s.2.2.2.2.1 s.2.2.2.2.2) (g, t4a, t4l, t4c, t5, i6) rfl hJ ?_
  intro s m hJ
  have h := hs s.1 s.2.1 s.2.2.1 s.2.2.2.1 s.2.2.2.2.1 s.2.2.2.2.2 m hJ
  refine e132_1 ?_
  refine Eq.mp (congrArg (fun B => s132_1 C bag0a bag0l bag0c c1a c1l c1c s.2.1 s.2.2.1 s.2.2.2.1 s.2.2.2.2.1 s.2.2.2.2.2 (andThenE B (kAt (cfgOf Tryz.prog pureF pureT C [(2, [0, 1, 4, 5, 6])] 132) (bodyOf Tryz.prog 132) [1, 0, 1, 0] (endK Tryz.prog 132 K))) m) ?_) h
  funext fr m'
  apply propext
  constructor
  · rintro ⟨g', t4a', t4l', t4c', t5', i6', h1, h2, h3⟩
    exact ⟨(g', t4a', t4l', t4c', t5', i6'), h1, h2, h3⟩
  · rintro ⟨⟨g', t4a', t4l', t4c', t5', i6'⟩, h1, h2, h3⟩
    exact ⟨g', t4a', t4l', t4c', t5', i6', h1, h2, h3⟩

def s133 (C : CallT) (cs0a : Option Addr) (cs0l cs0c : Nat) (c1a : Option Addr) (c1l c1c : Nat) (K : Value → Mem → Prop) (m : Mem) : Prop :=
  loopE [0, 1, 5, 6] (evCode (cfgOf Tryz.prog pureF pureT C [(3, [0, 1, 5, 6])] 133) (codeAt (bodyOf Tryz.prog 133) [1, 1, 0, 1, 0, 0])) (kAt (cfgOf Tryz.prog pureF pureT C [(3, [0, 1, 5, 6])] 133) (bodyOf Tryz.prog 133) [1, 1, 0, 1, 0] (endK Tryz.prog 133 K)) [(0, (.slice cs0a cs0l cs0c)), (1, (.slice c1a c1l c1c)), (5, (.slice none 0 0)), (6, (.int .i64 0))] m
theorem e133 (C : CallT) (cs0a : Option Addr) (cs0l cs0c : Nat) (c1a : Option Addr) (c1l c1c : Nat) (K : Value → Mem → Prop) (m : Mem) : evFn Tryz.prog pureF pureT C [(3, [0, 1, 5, 6])] 133 [(.slice cs0a cs0l cs0c), (.slice c1a c1l c1c)] K m = s133 C cs0a cs0l cs0c c1a c1l c1c K m := by kernel_rfl
theorem call133 {W0 : World} {cs0a : Option Addr} {cs0l cs0c : Nat} {c1a : Option Addr} {c1l c1c : Nat} {K : Value → Mem → Prop} {m : Mem} (h : s133 (callOK Tryz.prog W0) cs0a cs0l cs0c c1a c1l c1c K m) : callOK Tryz.prog W0 133 [(.slice cs0a cs0l cs0c), (.slice c1a c1l c1c)] K m :=
  evFn_sound pureOk mixedP (fun w => Tryz.call133 _ w) ((e133 (callOK Tryz.prog W0) cs0a cs0l cs0c c1a c1l c1c K m).symm ▸ h)
def s133_1 (C : CallT) (cs0a : Option Addr) (cs0l cs0c : Nat) (c1a : Option Addr) (c1l c1c : Nat) (on5a : Option Addr) (on5l on5c : Nat) (i6 : Int) (Kt : Exit → Fr → Mem → Prop) (m : Mem) : Prop :=
  ifB (decide (i6 < ((c1l : Nat) : Int)))
  (ckP c1a fun b_1 o_1 =>
  ckI i6 c1l fun j_2 =>
  ldInt .i64 m b_1 (o_1 + j_2) fun x_3 =>
  allocB m (Blk.ofList [(.int .i64 (IntKind.wrap .i64 (0 - x_3)))]) fun b_4 m_5 =>
  rdRow m_5 (some ⟨b_4, 0, none⟩) (1 * 1) fun r_8 =>
  appendC m_5 1 8 [(.int .i64 0)] on5a on5l on5c 1 r_8 fun a_6 c_6 m_7 =>
  Kt .normal [(0, (.slice cs0a cs0l cs0c)), (1, (.slice c1a c1l c1c)), (5, (.slice a_6 (on5l + 1) c_6)), (6, (.int .i64 (IntKind.wrap .i64 (i6 + 1))))] m_7)
  (Kt (.exit 0) [(0, (.slice cs0a cs0l cs0c)), (1, (.slice c1a c1l c1c)), (5, (.slice on5a on5l on5c)), (6, (.int .i64 i6))] m)
theorem e133_1 {C : CallT} {cs0a : Option Addr} {cs0l cs0c : Nat} {c1a : Option Addr} {c1l c1c : Nat} {on5a : Option Addr} {on5l on5c : Nat} {i6 : Int} {Kt : Exit → Fr → Mem → Prop} {m : Mem} (h : s133_1 C cs0a cs0l cs0c c1a c1l c1c on5a on5l on5c i6 Kt m) : evCode (cfgOf Tryz.prog pureF pureT C [(3, [0, 1, 5, 6])] 133) (codeAt (bodyOf Tryz.prog 133) [1, 1, 0, 1, 0, 0]) (trimK [0, 1, 5, 6] Kt) [(0, (.slice cs0a cs0l cs0c)), (1, (.slice c1a c1l c1c)), (5, (.slice on5a on5l on5c)), (6, (.int .i64 i6))] m :=
  (show _ = _ by kernel_rfl : evCode (cfgOf Tryz.prog pureF pureT C [(3, [0, 1, 5, 6])] 133) (codeAt (bodyOf Tryz.prog 133) [1, 1, 0, 1, 0, 0]) (trimK [0, 1, 5, 6] Kt) [(0, (.slice cs0a cs0l cs0c)), (1, (.slice c1a c1l c1c)), (5, (.slice on5a on5l on5c)), (6, (.int .i64 i6))] m = s133_1 C cs0a cs0l cs0c c1a c1l c1c on5a on5l on5c i6 Kt m).symm ▸ h
def s133_1x0 (C : CallT) (cs0a : Option Addr) (cs0l cs0c : Nat) (c1a : Option Addr) (c1l c1c : Nat) (on5a : Option Addr) (on5l on5c : Nat) (i6 : Int) (K : Value → Mem → Prop) (m : Mem) : Prop :=
  C 151 [(.slice cs0a cs0l cs0c), (.slice on5a on5l on5c)] (fun rm_11 m_11 =>
  ∃ x_9a x_9l x_9c x_10, rm_11 = (.tuple #[(.slice x_9a x_9l x_9c), (.bool x_10)]) ∧
  K (.bool x_10) m_11) m
theorem e133_1x0 {C : CallT} {kn : Fr → Mem → Prop} {cs0a : Option Addr} {cs0l cs0c : Nat} {c1a : Option Addr} {c1l c1c : Nat} {on5a : Option Addr} {on5l on5c : Nat} {i6 : Int} {K : Value → Mem → Prop} {m : Mem} : (andThenE kn (kAt (cfgOf Tryz.prog pureF pureT C [(3, [0, 1, 5, 6])] 133) (bodyOf Tryz.prog 133) [1, 1, 0, 1, 0] (endK Tryz.prog 133 K)) (.exit 0) [(0, (.slice cs0a cs0l cs0c)), (1, (.slice c1a c1l c1c)), (5, (.slice on5a on5l on5c)), (6, (.int .i64 i6))] m) = s133_1x0 C cs0a cs0l cs0c c1a c1l c1c on5a on5l on5c i6 K m := by kernel_rfl
def F133_1 (cs0a : Option Addr) (cs0l cs0c : Nat) (c1a : Option Addr) (c1l c1c : Nat) (on5a : Option Addr) (on5l on5c : Nat) (i6 : Int) : Fr := [(0, (.slice cs0a cs0l cs0c)), (1, (.slice c1a c1l c1c)), (5, (.slice on5a on5l on5c)), (6, (.int .i64 i6))]
theorem loop133_1 {C : CallT} {γ : Type} {cs0a : Option Addr} {cs0l cs0c : Nat} {c1a : Option Addr} {c1l c1c : Nat} {K : Value → Mem → Prop} {m : Mem} (J : γ → Option Addr → Nat → Nat → Int → Mem → Prop) (μ : γ → Option Addr → Nat → Nat → Int → Nat) (g : γ) {on5a : Option Addr} {on5l on5c : Nat} {i6 : Int} (hJ : J g on5a on5l on5c i6 m)
    (hs : ∀ g on5a on5l on5c i6 m, J g on5a on5l on5c i6 m → s133_1 C cs0a cs0l cs0c c1a c1l c1c on5a on5l on5c i6 (andThenE (fun fr m' => ∃ g' on5a' on5l' on5c' i6', fr = F133_1 cs0a cs0l cs0c c1a c1l c1c on5a' on5l' on5c' i6' ∧ J g' on5a' on5l' on5c' i6' m' ∧ μ g' on5a' on5l' on5c' i6' < μ g on5a on5l on5c i6) (kAt (cfgOf Tryz.prog pureF pureT C [(3, [0, 1, 5, 6])] 133) (bodyOf Tryz.prog 133) [1, 1, 0, 1, 0] (endK Tryz.prog 133 K))) m) :
    loopE [0, 1, 5, 6] (evCode (cfgOf Tryz.prog pureF pureT C [(3, [0, 1, 5, 6])] 133) (codeAt (bodyOf Tryz.prog 133) [1, 1, 0, 1, 0, 0])) (kAt (cfgOf Tryz.prog pureF pureT C [(3, [0, 1, 5, 6])] 133) (bodyOf Tryz.prog 133) [1, 1, 0, 1, 0] (endK Tryz.prog 133 K)) [(0, (.slice cs0a cs0l cs0c)), (1, (.slice c1a c1l c1c)), (5, (.slice on5a on5l on5c)), (6, (.int .i64 i6))] m := by
  refine loop_rule (σ := γ × Option Addr × Nat × Nat × Int) (fun s => F133_1 cs0a cs0l cs0c c1a c1l c1c s.2.1 s.2.2.1 s.2.2.2.1 s.2.2.2.2) (fun s m => J s.1 s.2.1 s.2.2.1 s.2.2.2.1 s.2.2.2.2 m) (fun s => μ s.1 s.2.1 s.2.2.1 s.2.2.2.1 s.2.2.2.2) (g, on5a, on5l, on5c, i6) rfl hJ ?_
  intro s m hJ
  have h := hs s.1 s.2.1 s.2.2.1 s.2.2.2.1 s.2.2.2.2 m hJ
  refine e133_1 ?_
  refine Eq.mp (congrArg (fun B => s133_1 C cs0a cs0l cs0c c1a c1l c1c s.2.1 s.2.2.1 s.2.2.2.1 s.2.2.2.2 (andThenE B (kAt (cfgOf Tryz.prog pureF pureT C [(3, [0, 1, 5, 6])] 133) (bodyOf Tryz.prog 133) [1, 1, 0, 1, 0] (endK Tryz.prog 133 K))) m) ?_) h
  funext fr m'
  apply propext
  constructor
  · rintro ⟨g', on5a', on5l', on5c', i6', h1, h2, h3⟩
    exact ⟨(g', on5a', on5l', on5c', i6'), h1, h2, h3⟩
  · rintro ⟨⟨g', on5a', on5l', on5c', i6'⟩, h1, h2, h3⟩
    exact ⟨g', on5a', on5l', on5c', i6', h1, h2, h3⟩

def s134 (C : CallT) (p0 : Nat) (K : Value → Mem → Prop) (m : Mem) : Prop :=
  ldInt .u16 m p0 5 fun x_1 =>
  ldInt .u16 m p0 6 fun x_2 =>
  ifB ((bAnd .u16 x_1 x_2) == 0)
  (ldBool m p0 7 fun y_3 =>
  ifB y_3
  (ldSl m p0 0 fun l_4a l_4l l_4c =>
  allocB m (Blk.ofList [(.int .i64 13)]) fun b_5 m_6 =>
  rdRow m_6 (some ⟨b_5, 0, none⟩) (1 * 1) fun r_9 =>
  appendC m_6 1 8 [(.int .i64 0)] l_4a l_4l l_4c 1 r_9 fun a_7 c_7 m_8 =>
  st m_8 p0 0 (.slice a_7 (l_4l + 1) c_7) fun m_10 =>
  loopE [0, 2] (evCode (cfgOf Tryz.prog pureF pureT C [(4, [0, 2])] 134) (codeAt (bodyOf Tryz.prog 134) [0, 1, 0, 1, 0, 1, 0, 0])) (kAt (cfgOf Tryz.prog pureF pureT C [(4, [0, 2])] 134) (bodyOf Tryz.prog 134) [0, 1, 0, 1, 0, 1, 0] (endK Tryz.prog 134 K)) [(0, (ptr p0 0)), (2, (.int .i64 1))] m_10)
  (loopE [0, 2] (evCode (cfgOf Tryz.prog pureF pureT C [(4, [0, 2])] 134) (codeAt (bodyOf Tryz.prog 134) [0, 1, 0, 1, 0, 1, 0, 0])) (kAt (cfgOf Tryz.prog pureF pureT C [(4, [0, 2])] 134) (bodyOf Tryz.prog 134) [0, 1, 0, 1, 0, 1, 0] (endK Tryz.prog 134 K)) [(0, (ptr p0 0)), (2, (.int .i64 1))] m))
  (st m p0 5 (.int .u16 0) fun m_11 =>
  st m_11 p0 6 (.int .u16 0) fun m_12 =>
  st m_12 p0 7 (.bool false) fun m_13 =>
  st m_13 p0 8 (.bool false) fun m_14 =>
  K (.tuple #[]) m_14)
theorem e134 (C : CallT) (p0 : Nat) (K : Value → Mem → Prop) (m : Mem) : evFn Tryz.prog pureF pureT C [(4, [0, 2])] 134 [(ptr p0 0)] K m = s134 C p0 K m := by kernel_rfl
theorem call134 {W0 : World} {p0 : Nat} {K : Value → Mem → Prop} {m : Mem} (h : s134 (callOK Tryz.prog W0) p0 K m) : callOK Tryz.prog W0 134 [(ptr p0 0)] K m :=
  evFn_sound pureOk mixedP (fun w => Tryz.call134 _ w) ((e134 (callOK Tryz.prog W0) p0 K m).symm ▸ h)
def s134_1 (C : CallT) (p0 : Nat) (v2 : Int) (Kt : Exit → Fr → Mem → Prop) (m : Mem) : Prop :=
  ifB (decide (v2 ≤ 12))
  ((0 : Int) ≤ (IntKind.wrap .u64 v2) ∧
  ldInt .u16 m p0 5 fun x_15 =>
  ifB ((bAnd .u16 x_15 (shlV .u16 1 (IntKind.wrap .u64 v2))) != 0)
  (ldSl m p0 0 fun l_16a l_16l l_16c =>
  allocB m (Blk.ofList [(.int .i64 v2)]) fun b_17 m_18 =>
  rdRow m_18 (some ⟨b_17, 0, none⟩) (1 * 1) fun r_21 =>
  appendC m_18 1 8 [(.int .i64 0)] l_16a l_16l l_16c 1 r_21 fun a_19 c_19 m_20 =>
  st m_20 p0 0 (.slice a_19 (l_16l + 1) c_19) fun m_22 =>
  ldInt .u16 m_22 p0 6 fun x_23 =>
  ifB ((bAnd .u16 x_23 (shlV .u16 1 (IntKind.wrap .u64 v2))) != 0)
  (ldSl m_22 p0 0 fun l_24a l_24l l_24c =>
  allocB m_22 (Blk.ofList [(.int .i64 (IntKind.wrap .i64 (0 - v2)))]) fun b_25 m_26 =>
  rdRow m_26 (some ⟨b_25, 0, none⟩) (1 * 1) fun r_29 =>
  appendC m_26 1 8 [(.int .i64 0)] l_24a l_24l l_24c 1 r_29 fun a_27 c_27 m_28 =>
  st m_28 p0 0 (.slice a_27 (l_24l + 1) c_27) fun m_30 =>
  Kt .normal [(0, (ptr p0 0)), (2, (.int .i64 (IntKind.wrap .i64 (v2 + 1))))] m_30)
  (Kt .normal [(0, (ptr p0 0)), (2, (.int .i64 (IntKind.wrap .i64 (v2 + 1))))] m_22))
  (ldInt .u16 m p0 6 fun x_31 =>
  ifB ((bAnd .u16 x_31 (shlV .u16 1 (IntKind.wrap .u64 v2))) != 0)
  (ldSl m p0 0 fun l_32a l_32l l_32c =>
  allocB m (Blk.ofList [(.int .i64 (IntKind.wrap .i64 (0 - v2)))]) fun b_33 m_34 =>
  rdRow m_34 (some ⟨b_33, 0, none⟩) (1 * 1) fun r_37 =>
  appendC m_34 1 8 [(.int .i64 0)] l_32a l_32l l_32c 1 r_37 fun a_35 c_35 m_36 =>
  st m_36 p0 0 (.slice a_35 (l_32l + 1) c_35) fun m_38 =>
  Kt .normal [(0, (ptr p0 0)), (2, (.int .i64 (IntKind.wrap .i64 (v2 + 1))))] m_38)
  (Kt .normal [(0, (ptr p0 0)), (2, (.int .i64 (IntKind.wrap .i64 (v2 + 1))))] m)))
  (Kt (.exit 0) [(0, (ptr p0 0)), (2, (.int .i64 v2))] m)
theorem e134_1 {C : CallT} {p0 : Nat} {v2 : Int} {Kt : Exit → Fr → Mem → Prop} {m : Mem} (h : s134_1 C p0 v2 Kt m) : evCode (cfgOf Tryz.prog pureF pureT C [(4, [0, 2])] 134) (codeAt (bodyOf Tryz.prog 134) [0, 1, 0, 1, 0, 1, 0, 0]) (trimK [0, 2] Kt) [(0, (ptr p0 0)), (2, (.int .i64 v2))] m :=
  (show _ = _ by kernel_rfl : evCode (cfgOf Tryz.prog pureF pureT C [(4, [0, 2])] 134) (codeAt (bodyOf Tryz.prog 134) [0, 1, 0, 1, 0, 1, 0, 0]) (trimK [0, 2] Kt) [(0, (ptr p0 0)), (2, (.int .i64 v2))] m = s134_1 C p0 v2 Kt m).symm ▸ h
def s134_1x0 (C : CallT) (p0 : Nat) (v2 : Int) (K : Value → Mem → Prop) (m : Mem) : Prop :=
  ldSl m p0 0 fun l_39a l_39l l_39c =>
  allocB m (Blk.ofList [(.int .i64 0)]) fun b_40 m_41 =>
  rdRow m_41 (some ⟨b_40, 0, none⟩) (1 * 1) fun r_44 =>
  appendC m_41 1 8 [(.int .i64 0)] l_39a l_39l l_39c 1 r_44 fun a_42 c_42 m_43 =>
  st m_43 p0 0 (.slice a_42 (l_39l + 1) c_42) fun m_45 =>
  st m_45 p0 5 (.int .u16 0) fun m_46 =>
  st m_46 p0 6 (.int .u16 0) fun m_47 =>
  st m_47 p0 7 (.bool false) fun m_48 =>
  st m_48 p0 8 (.bool false) fun m_49 =>
  K (.tuple #[]) m_49
theorem e134_1x0 {C : CallT} {kn : Fr → Mem → Prop} {p0 : Nat} {v2 : Int} {K : Value → Mem → Prop} {m : Mem} : (andThenE kn (kAt (cfgOf Tryz.prog pureF pureT C [(4, [0, 2])] 134) (bodyOf Tryz.prog 134) [0, 1, 0, 1, 0, 1, 0] (endK Tryz.prog 134 K)) (.exit 0) [(0, (ptr p0 0)), (2, (.int .i64 v2))] m) = s134_1x0 C p0 v2 K m := by kernel_rfl
def F134_1 (p0 : Nat) (v2 : Int) : Fr := [(0, (ptr p0 0)), (2, (.int .i64 v2))]
theorem loop134_1 {C : CallT} {γ : Type} {p0 : Nat} {K : Value → Mem → Prop} {m : Mem} (J : γ → Int → Mem → Prop) (μ : γ → Int → Nat) (g : γ) {v2 : Int} (hJ : J g v2 m)
    (hs : ∀ g v2 m, J g v2 m → s134_1 C p0 v2 (andThenE (fun fr m' => ∃ g' v2', fr = F134_1 p0 v2' ∧ J g' v2' m' ∧ μ g' v2' < μ g v2) (kAt (cfgOf Tryz.prog pureF pureT C [(4, [0, 2])] 134) (bodyOf Tryz.prog 134) [0, 1, 0, 1, 0, 1, 0] (endK Tryz.prog 134 K))) m) :
    loopE [0, 2] (evCode (cfgOf Tryz.prog pureF pureT C [(4, [0, 2])] 134) (codeAt (bodyOf Tryz.prog 134) [0, 1, 0, 1, 0, 1, 0, 0])) (kAt (cfgOf Tryz.prog pureF pureT C [(4, [0, 2])] 134) (bodyOf Tryz.prog 134) [0, 1, 0, 1, 0, 1, 0] (endK Tryz.prog 134 K)) [(0, (ptr p0 0)), (2, (.int .i64 v2))] m := by
  refine loop_rule (σ := γ × Int) (fun s => F134_1 p0 s.2) (fun s m => J s.1 s.2 m) (fun s => μ s.1 s.2) (g, v2) rfl hJ ?_
  intro s m hJ
  have h := hs s.1 s.2 m hJ
  refine e134_1 ?_
  refine Eq.mp (congrArg (fun B => s134_1 C p0 s.2 (andThenE B (kAt (cfgOf Tryz.prog pureF pureT C [(4, [0, 2])] 134) (bodyOf Tryz.prog 134) [0, 1, 0, 1, 0, 1, 0] (endK Tryz.prog 134 K))) m) ?_) h
  funext fr m'
  apply propext
  constructor
  · rintro ⟨g', v2', h1, h2, h3⟩
    exact ⟨(g', v2'), h1, h2, h3⟩
  · rintro ⟨⟨g', v2'⟩, h1, h2, h3⟩
    exact ⟨g', v2', h1, h2, h3⟩

def s135 (C : CallT) (w0 : Nat) (id1 : Int) (K : Value → Mem → Prop) (m : Mem) : Prop :=
  ckI (IntKind.wrap .i64 (id1 * 12)) 624 fun j_1 =>
  ldInt .i64 m w0 (1 + j_1) fun x_2 =>
  ckI (goCode x_2) 26 fun j_3 =>
  ldInt .u64 m w0 (680 + j_3) fun x_4 =>
  ckI (goCode x_2) 26 fun j_5 =>
  st m w0 (680 + j_5) (.int .u64 (bOr .u64 x_4 (goBit id1))) fun m_6 =>
  ckI (IntKind.wrap .i64 ((IntKind.wrap .i64 (id1 * 12)) + 1)) 624 fun j_7 =>
  ldInt .i64 m_6 w0 (1 + j_7) fun x_8 =>
  ckI (goCode x_8) 26 fun j_9 =>
  ldInt .u64 m_6 w0 (680 + j_9) fun x_10 =>
  ckI (goCode x_8) 26 fun j_11 =>
  st m_6 w0 (680 + j_11) (.int .u64 (bOr .u64 x_10 (goBit id1))) fun m_12 =>
  K (.tuple #[]) m_12
theorem e135 (C : CallT) (w0 : Nat) (id1 : Int) (K : Value → Mem → Prop) (m : Mem) : evFn Tryz.prog pureF pureT C [] 135 [(ptr w0 0), (.int .i64 id1)] K m = s135 C w0 id1 K m := by kernel_rfl
theorem call135 {W0 : World} {w0 : Nat} {id1 : Int} {K : Value → Mem → Prop} {m : Mem} (h : s135 (callOK Tryz.prog W0) w0 id1 K m) : callOK Tryz.prog W0 135 [(ptr w0 0), (.int .i64 id1)] K m :=
  evFn_sound pureOk mixedP (fun w => Tryz.call135 _ w) ((e135 (callOK Tryz.prog W0) w0 id1 K m).symm ▸ h)

def s136 (C : CallT) (t0 : Nat) (l1 : Int) (reason2 : Int) (K : Value → Mem → Prop) (m : Mem) : Prop :=
  ifB (!(goGoodLit l1))
  (K (.int .i64 7) m)
  (ifB (decide (reason2 < (-1)))
  (K (.int .i64 11) m)
  (ckI (goVar l1) 13 fun j_1 =>
  ldInt .i8 m t0 (15 + j_1) fun x_2 =>
  ifB (x_2 != 0)
  (K (.int .i64 9) m)
  (C 68 [(ptr t0 0), (.int .i64 l1), (.int .i64 (goVar l1)), (.int .i64 reason2)] (fun rm_3 m_3 =>
  rm_3 = (.tuple #[]) ∧
  K (.int .i64 0) m_3) m)))
theorem e136 (C : CallT) (t0 : Nat) (l1 : Int) (reason2 : Int) (K : Value → Mem → Prop) (m : Mem) : evFn Tryz.prog pureF pureT C [] 136 [(ptr t0 0), (.int .i64 l1), (.int .i64 reason2)] K m = s136 C t0 l1 reason2 K m := by kernel_rfl
theorem call136 {W0 : World} {t0 : Nat} {l1 : Int} {reason2 : Int} {K : Value → Mem → Prop} {m : Mem} (h : s136 (callOK Tryz.prog W0) t0 l1 reason2 K m) : callOK Tryz.prog W0 136 [(ptr t0 0), (.int .i64 l1), (.int .i64 reason2)] K m :=
  evFn_sound pureOk mixedP (fun w => Tryz.call136 _ w) ((e136 (callOK Tryz.prog W0) t0 l1 reason2 K m).symm ▸ h)

def s138 (C : CallT) (w0 : Nat) (id1 : Int) (p2 : Int) (K : Value → Mem → Prop) (m : Mem) : Prop :=
  ldInt .i64 m w0 706 fun x_1 =>
  st m w0 706 (.int .i64 (IntKind.wrap .i64 (x_1 + 1))) fun m_2 =>
  ckI (IntKind.wrap .i64 (id1 * 12)) 624 fun j_3 =>
  ldInt .i64 m_2 w0 (1 + j_3) fun x_4 =>
  ifB (x_4 == (IntKind.wrap .i64 (0 - p2)))
  (ckI (IntKind.wrap .i64 ((IntKind.wrap .i64 (id1 * 12)) + 1)) 624 fun j_5 =>
  ldInt .i64 m_2 w0 (1 + j_5) fun x_6 =>
  ckI (IntKind.wrap .i64 (id1 * 12)) 624 fun j_7 =>
  st m_2 w0 (1 + j_7) (.int .i64 x_6) fun m_8 =>
  ckI (IntKind.wrap .i64 ((IntKind.wrap .i64 (id1 * 12)) + 1)) 624 fun j_9 =>
  st m_8 w0 (1 + j_9) (.int .i64 (IntKind.wrap .i64 (0 - p2))) fun m_10 =>
  ckI (IntKind.wrap .i64 (id1 * 12)) 624 fun j_11 =>
  ldInt .i64 m_10 w0 (1 + j_11) fun x_12 =>
  ldPtr m_10 w0 0 fun p_13 =>
  C 65 [(.pointer p_13), (.int .i64 x_12)] (fun rm_15 m_15 =>
  ∃ x_14, rm_15 = (.int .i64 x_14) ∧
  ifB (x_14 == 1)
  (ldPtr m_15 w0 0 fun p_16 =>
  C 152 [(.pointer p_16), (.int .i64 (goVar x_12))] (fun rm_18 m_18 =>
  ∃ x_17, rm_18 = (.int .i64 x_17) ∧
  ldPtr m_18 w0 0 fun p_19 =>
  C 152 [(.pointer p_19), (.int .i64 (goVar p2))] (fun rm_21 m_21 =>
  ∃ x_20, rm_21 = (.int .i64 x_20) ∧
  ifB (decide (x_17 < x_20))
  (K (.int .i64 (-1)) m_21)
  (ckI id1 52 fun j_22 =>
  ldInt .i64 m_21 w0 (625 + j_22) fun x_23 =>
  loopE [0, 1, 6, 7, 8, 9, 10, 15, 16, 17] (evCode (cfgOf Tryz.prog pureF pureT C [(19, [0, 1, 6, 7, 8, 9, 10, 15, 16, 17])] 138) (codeAt (bodyOf Tryz.prog 138) [1, 1, 1, 1, 1, 1, 1, 1, 1, 1, 0, 1, 0, 0])) (kAt (cfgOf Tryz.prog pureF pureT C [(19, [0, 1, 6, 7, 8, 9, 10, 15, 16, 17])] 138) (bodyOf Tryz.prog 138) [1, 1, 1, 1, 1, 1, 1, 1, 1, 1, 0, 1, 0] (endK Tryz.prog 138 K)) [(0, (ptr w0 0)), (1, (.int .i64 id1)), (6, (.int .i64 0)), (7, (.int .i64 (IntKind.wrap .i64 (id1 * 12)))), (8, (.int .i64 (IntKind.wrap .i64 (0 - p2)))), (9, (.int .i64 x_12)), (10, (.int .i64 x_14)), (15, (.int .u64 (goBit id1))), (16, (.int .i64 x_23)), (17, (.int .i64 2))] m_21)) m_18) m_15)
  (ckI id1 52 fun j_24 =>
  ldInt .i64 m_15 w0 (625 + j_24) fun x_25 =>
  loopE [0, 1, 6, 7, 8, 9, 10, 15, 16, 17] (evCode (cfgOf Tryz.prog pureF pureT C [(19, [0, 1, 6, 7, 8, 9, 10, 15, 16, 17])] 138) (codeAt (bodyOf Tryz.prog 138) [1, 1, 1, 1, 1, 1, 1, 1, 1, 1, 0, 1, 0, 0])) (kAt (cfgOf Tryz.prog pureF pureT C [(19, [0, 1, 6, 7, 8, 9, 10, 15, 16, 17])] 138) (bodyOf Tryz.prog 138) [1, 1, 1, 1, 1, 1, 1, 1, 1, 1, 0, 1, 0] (endK Tryz.prog 138 K)) [(0, (ptr w0 0)), (1, (.int .i64 id1)), (6, (.int .i64 0)), (7, (.int .i64 (IntKind.wrap .i64 (id1 * 12)))), (8, (.int .i64 (IntKind.wrap .i64 (0 - p2)))), (9, (.int .i64 x_12)), (10, (.int .i64 x_14)), (15, (.int .u64 (goBit id1))), (16, (.int .i64 x_25)), (17, (.int .i64 2))] m_15)) m_10)
  (ckI (IntKind.wrap .i64 (id1 * 12)) 624 fun j_26 =>
  ldInt .i64 m_2 w0 (1 + j_26) fun x_27 =>
  ldPtr m_2 w0 0 fun p_28 =>
  C 65 [(.pointer p_28), (.int .i64 x_27)] (fun rm_30 m_30 =>
  ∃ x_29, rm_30 = (.int .i64 x_29) ∧
  ifB (x_29 == 1)
  (ldPtr m_30 w0 0 fun p_31 =>
  C 152 [(.pointer p_31), (.int .i64 (goVar x_27))] (fun rm_33 m_33 =>
  ∃ x_32, rm_33 = (.int .i64 x_32) ∧
  ldPtr m_33 w0 0 fun p_34 =>
  C 152 [(.pointer p_34), (.int .i64 (goVar p2))] (fun rm_36 m_36 =>
  ∃ x_35, rm_36 = (.int .i64 x_35) ∧
  ifB (decide (x_32 < x_35))
  (K (.int .i64 (-1)) m_36)
  (ckI id1 52 fun j_37 =>
  ldInt .i64 m_36 w0 (625 + j_37) fun x_38 =>
  loopE [0, 1, 6, 7, 8, 9, 10, 15, 16, 17] (evCode (cfgOf Tryz.prog pureF pureT C [(19, [0, 1, 6, 7, 8, 9, 10, 15, 16, 17])] 138) (codeAt (bodyOf Tryz.prog 138) [1, 1, 1, 1, 1, 1, 1, 1, 1, 1, 0, 1, 0, 0])) (kAt (cfgOf Tryz.prog pureF pureT C [(19, [0, 1, 6, 7, 8, 9, 10, 15, 16, 17])] 138) (bodyOf Tryz.prog 138) [1, 1, 1, 1, 1, 1, 1, 1, 1, 1, 0, 1, 0] (endK Tryz.prog 138 K)) [(0, (ptr w0 0)), (1, (.int .i64 id1)), (6, (.int .i64 0)), (7, (.int .i64 (IntKind.wrap .i64 (id1 * 12)))), (8, (.int .i64 (IntKind.wrap .i64 (0 - p2)))), (9, (.int .i64 x_27)), (10, (.int .i64 x_29)), (15, (.int .u64 (goBit id1))), (16, (.int .i64 x_38)), (17, (.int .i64 2))] m_36)) m_33) m_30)
  (ckI id1 52 fun j_39 =>
  ldInt .i64 m_30 w0 (625 + j_39) fun x_40 =>
  loopE [0, 1, 6, 7, 8, 9, 10, 15, 16, 17] (evCode (cfgOf Tryz.prog pureF pureT C [(19, [0, 1, 6, 7, 8, 9, 10, 15, 16, 17])] 138) (codeAt (bodyOf Tryz.prog 138) [1, 1, 1, 1, 1, 1, 1, 1, 1, 1, 0, 1, 0, 0])) (kAt (cfgOf Tryz.prog pureF pureT C [(19, [0, 1, 6, 7, 8, 9, 10, 15, 16, 17])] 138) (bodyOf Tryz.prog 138) [1, 1, 1, 1, 1, 1, 1, 1, 1, 1, 0, 1, 0] (endK Tryz.prog 138 K)) [(0, (ptr w0 0)), (1, (.int .i64 id1)), (6, (.int .i64 0)), (7, (.int .i64 (IntKind.wrap .i64 (id1 * 12)))), (8, (.int .i64 (IntKind.wrap .i64 (0 - p2)))), (9, (.int .i64 x_27)), (10, (.int .i64 x_29)), (15, (.int .u64 (goBit id1))), (16, (.int .i64 x_40)), (17, (.int .i64 2))] m_30)) m_2)
theorem e138 (C : CallT) (w0 : Nat) (id1 : Int) (p2 : Int) (K : Value → Mem → Prop) (m : Mem) : evFn Tryz.prog pureF pureT C [(19, [0, 1, 6, 7, 8, 9, 10, 15, 16, 17])] 138 [(ptr w0 0), (.int .i64 id1), (.int .i64 p2)] K m = s138 C w0 id1 p2 K m := by kernel_rfl
theorem call138 {W0 : World} {w0 : Nat} {id1 : Int} {p2 : Int} {K : Value → Mem → Prop} {m : Mem} (h : s138 (callOK Tryz.prog W0) w0 id1 p2 K m) : callOK Tryz.prog W0 138 [(ptr w0 0), (.int .i64 id1), (.int .i64 p2)] K m :=
  evFn_sound pureOk mixedP (fun w => Tryz.call138 _ w) ((e138 (callOK Tryz.prog W0) w0 id1 p2 K m).symm ▸ h)
def s138_1 (C : CallT) (w0 : Nat) (id1 : Int) (t6 : Int) (base7 : Int) (f8 : Int) (q9 : Int) (vq10 : Int) (b15 : Int) (n16 : Int) (k17 : Int) (Kt : Exit → Fr → Mem → Prop) (m : Mem) : Prop :=
  ifB (decide (k17 < n16))
  (ckI (IntKind.wrap .i64 (base7 + k17)) 624 fun j_41 =>
  ldInt .i64 m w0 (1 + j_41) fun x_42 =>
  ldPtr m w0 0 fun p_43 =>
  C 65 [(.pointer p_43), (.int .i64 x_42)] (fun rm_45 m_45 =>
  ∃ x_44, rm_45 = (.int .i64 x_44) ∧
  ifB (x_44 != (-1))
  (ckI (IntKind.wrap .i64 (base7 + 1)) 624 fun j_46 =>
  st m_45 w0 (1 + j_46) (.int .i64 x_42) fun m_47 =>
  ckI (IntKind.wrap .i64 (base7 + k17)) 624 fun j_48 =>
  st m_47 w0 (1 + j_48) (.int .i64 f8) fun m_49 =>
  ckI (goCode f8) 26 fun j_50 =>
  ldInt .u64 m_49 w0 (680 + j_50) fun x_51 =>
  ckI (goCode f8) 26 fun j_52 =>
  st m_49 w0 (680 + j_52) (.int .u64 (bAndNot .u64 x_51 b15)) fun m_53 =>
  ckI (goCode x_42) 26 fun j_54 =>
  ldInt .u64 m_53 w0 (680 + j_54) fun x_55 =>
  ckI (goCode x_42) 26 fun j_56 =>
  st m_53 w0 (680 + j_56) (.int .u64 (bOr .u64 x_55 b15)) fun m_57 =>
  Kt .ret [(0, (ptr w0 0)), (1, (.int .i64 id1)), (6, (.int .i64 (-1))), (7, (.int .i64 base7)), (8, (.int .i64 f8)), (9, (.int .i64 q9)), (10, (.int .i64 vq10)), (15, (.int .u64 b15)), (16, (.int .i64 n16)), (17, (.int .i64 k17))] m_57)
  (Kt .normal [(0, (ptr w0 0)), (1, (.int .i64 id1)), (6, (.int .i64 t6)), (7, (.int .i64 base7)), (8, (.int .i64 f8)), (9, (.int .i64 q9)), (10, (.int .i64 vq10)), (15, (.int .u64 b15)), (16, (.int .i64 n16)), (17, (.int .i64 (IntKind.wrap .i64 (k17 + 1))))] m_45)) m)
  (Kt (.exit 0) [(0, (ptr w0 0)), (1, (.int .i64 id1)), (6, (.int .i64 t6)), (7, (.int .i64 base7)), (8, (.int .i64 f8)), (9, (.int .i64 q9)), (10, (.int .i64 vq10)), (15, (.int .u64 b15)), (16, (.int .i64 n16)), (17, (.int .i64 k17))] m)
theorem e138_1 {C : CallT} {w0 : Nat} {id1 : Int} {t6 : Int} {base7 : Int} {f8 : Int} {q9 : Int} {vq10 : Int} {b15 : Int} {n16 : Int} {k17 : Int} {Kt : Exit → Fr → Mem → Prop} {m : Mem} (h : s138_1 C w0 id1 t6 base7 f8 q9 vq10 b15 n16 k17 Kt m) : evCode (cfgOf Tryz.prog pureF pureT C [(19, [0, 1, 6, 7, 8, 9, 10, 15, 16, 17])] 138) (codeAt (bodyOf Tryz.prog 138) [1, 1, 1, 1, 1, 1, 1, 1, 1, 1, 0, 1, 0, 0]) (trimK [0, 1, 6, 7, 8, 9, 10, 15, 16, 17] Kt) [(0, (ptr w0 0)), (1, (.int .i64 id1)), (6, (.int .i64 t6)), (7, (.int .i64 base7)), (8, (.int .i64 f8)), (9, (.int .i64 q9)), (10, (.int .i64 vq10)), (15, (.int .u64 b15)), (16, (.int .i64 n16)), (17, (.int .i64 k17))] m :=
  (show _ = _ by kernel_rfl : evCode (cfgOf Tryz.prog pureF pureT C [(19, [0, 1, 6, 7, 8, 9, 10, 15, 16, 17])] 138) (codeAt (bodyOf Tryz.prog 138) [1, 1, 1, 1, 1, 1, 1, 1, 1, 1, 0, 1, 0, 0]) (trimK [0, 1, 6, 7, 8, 9, 10, 15, 16, 17] Kt) [(0, (ptr w0 0)), (1, (.int .i64 id1)), (6, (.int .i64 t6)), (7, (.int .i64 base7)), (8, (.int .i64 f8)), (9, (.int .i64 q9)), (10, (.int .i64 vq10)), (15, (.int .u64 b15)), (16, (.int .i64 n16)), (17, (.int .i64 k17))] m = s138_1 C w0 id1 t6 base7 f8 q9 vq10 b15 n16 k17 Kt m).symm ▸ h
def s138_1r (C : CallT) (w0 : Nat) (id1 : Int) (t6 : Int) (base7 : Int) (f8 : Int) (q9 : Int) (vq10 : Int) (b15 : Int) (n16 : Int) (k17 : Int) (K : Value → Mem → Prop) (m : Mem) : Prop :=
  K (.int .i64 t6) m
theorem e138_1r {C : CallT} {kn : Fr → Mem → Prop} {w0 : Nat} {id1 : Int} {t6 : Int} {base7 : Int} {f8 : Int} {q9 : Int} {vq10 : Int} {b15 : Int} {n16 : Int} {k17 : Int} {K : Value → Mem → Prop} {m : Mem} : (andThenE kn (kAt (cfgOf Tryz.prog pureF pureT C [(19, [0, 1, 6, 7, 8, 9, 10, 15, 16, 17])] 138) (bodyOf Tryz.prog 138) [1, 1, 1, 1, 1, 1, 1, 1, 1, 1, 0, 1, 0] (endK Tryz.prog 138 K)) .ret [(0, (ptr w0 0)), (1, (.int .i64 id1)), (6, (.int .i64 t6)), (7, (.int .i64 base7)), (8, (.int .i64 f8)), (9, (.int .i64 q9)), (10, (.int .i64 vq10)), (15, (.int .u64 b15)), (16, (.int .i64 n16)), (17, (.int .i64 k17))] m) = s138_1r C w0 id1 t6 base7 f8 q9 vq10 b15 n16 k17 K m := by kernel_rfl
def s138_1x0 (C : CallT) (w0 : Nat) (id1 : Int) (t6 : Int) (base7 : Int) (f8 : Int) (q9 : Int) (vq10 : Int) (b15 : Int) (n16 : Int) (k17 : Int) (K : Value → Mem → Prop) (m : Mem) : Prop :=
  C 145 [(ptr w0 0), (.int .i64 id1)] (fun rm_58 m_58 =>
  rm_58 = (.tuple #[]) ∧
  ldInt .u64 m_58 w0 679 fun x_59 =>
  st m_58 w0 679 (.int .u64 (bOr .u64 x_59 b15)) fun m_60 =>
  ifB (vq10 == (-1))
  (K (.int .i64 id1) m_60)
  (ifB (vq10 == 0)
  (ldPtr m_60 w0 0 fun p_61 =>
  C 136 [(.pointer p_61), (.int .i64 q9), (.int .i64 id1)] (fun rm_63 m_63 =>
  ∃ x_62, rm_63 = (.int .i64 x_62) ∧
  K (.int .i64 (-1)) m_63) m_60)
  (K (.int .i64 (-1)) m_60))) m
theorem e138_1x0 {C : CallT} {kn : Fr → Mem → Prop} {w0 : Nat} {id1 : Int} {t6 : Int} {base7 : Int} {f8 : Int} {q9 : Int} {vq10 : Int} {b15 : Int} {n16 : Int} {k17 : Int} {K : Value → Mem → Prop} {m : Mem} : (andThenE kn (kAt (cfgOf Tryz.prog pureF pureT C [(19, [0, 1, 6, 7, 8, 9, 10, 15, 16, 17])] 138) (bodyOf Tryz.prog 138) [1, 1, 1, 1, 1, 1, 1, 1, 1, 1, 0, 1, 0] (endK Tryz.prog 138 K)) (.exit 0) [(0, (ptr w0 0)), (1, (.int .i64 id1)), (6, (.int .i64 t6)), (7, (.int .i64 base7)), (8, (.int .i64 f8)), (9, (.int .i64 q9)), (10, (.int .i64 vq10)), (15, (.int .u64 b15)), (16, (.int .i64 n16)), (17, (.int .i64 k17))] m) = s138_1x0 C w0 id1 t6 base7 f8 q9 vq10 b15 n16 k17 K m := by kernel_rfl
def F138_1 (w0 : Nat) (id1 : Int) (t6 : Int) (base7 : Int) (f8 : Int) (q9 : Int) (vq10 : Int) (b15 : Int) (n16 : Int) (k17 : Int) : Fr := [(0, (ptr w0 0)), (1, (.int .i64 id1)), (6, (.int .i64 t6)), (7, (.int .i64 base7)), (8, (.int .i64 f8)), (9, (.int .i64 q9)), (10, (.int .i64 vq10)), (15, (.int .u64 b15)), (16, (.int .i64 n16)), (17, (.int .i64 k17))]
theorem loop138_1 {C : CallT} {γ : Type} {w0 : Nat} {id1 : Int} {base7 : Int} {f8 : Int} {q9 : Int} {vq10 : Int} {b15 : Int} {n16 : Int} {K : Value → Mem → Prop} {m : Mem} (J : γ → Int → Int → Mem → Prop) (μ : γ → Int → Int → Nat) (g : γ) {t6 : Int} {k17 : Int} (hJ : J g t6 k17 m)
    (hs : ∀ g t6 k17 m, J g t6 k17 m → s138_1 C w0 id1 t6 base7 f8 q9 vq10 b15 n16 k17 (andThenE (fun fr m' => ∃ g' t6' k17', fr = F138_1 w0 id1 t6' base7 f8 q9 vq10 b15 n16 k17' ∧ J g' t6' k17' m' ∧ μ g' t6' k17' < μ g t6 k17) (kAt (cfgOf Tryz.prog pureF pureT C [(19, [0, 1, 6, 7, 8, 9, 10, 15, 16, 17])] 138) (bodyOf Tryz.prog 138) [1, 1, 1, 1, 1, 1, 1, 1, 1, 1, 0, 1, 0] (endK Tryz.prog 138 K))) m) :
    loopE [0, 1, 6, 7, 8, 9, 10, 15, 16, 17] (evCode (cfgOf Tryz.prog pureF pureT C [(19, [0, 1, 6, 7, 8, 9, 10, 15, 16, 17])] 138) (codeAt (bodyOf Tryz.prog 138) [1, 1, 1, 1, 1, 1, 1, 1, 1, 1, 0, 1, 0, 0])) (kAt (cfgOf Tryz.prog pureF pureT C [(19, [0, 1, 6, 7, 8, 9, 10, 15, 16, 17])] 138) (bodyOf Tryz.prog 138) [1, 1, 1, 1, 1, 1, 1, 1, 1, 1, 0, 1, 0] (endK Tryz.prog 138 K)) [(0, (ptr w0 0)), (1, (.int .i64 id1)), (6, (.int .i64 t6)), (7, (.int .i64 base7)), (8, (.int .i64 f8)), (9, (.int .i64 q9)), (10, (.int .i64 vq10)), (15, (.int .u64 b15)), (16, (.int .i64 n16)), (17, (.int .i64 k17))] m := by
  refine loop_rule (σ := γ × Int × Int) (fun s => F138_1 w0 id1 s.2.1 base7 f8 q9 vq10 b15 n16 s.2.2) (fun s m => J s.1 s.2.1 s.2.2 m) (fun s => μ s.1 s.2.1 s.2.2) (g, t6, k17) rfl hJ ?_
  intro s m hJ
  have h := hs s.1 s.2.1 s.2.2 m hJ
  refine e138_1 ?_
  refine Eq.mp (congrArg (fun B => s138_1 C w0 id1 s.2.1 base7 f8 q9 vq10 b15 n16 s.2.2 (andThenE B (kAt (cfgOf Tryz.prog pureF pureT C [(19, [0, 1, 6, 7, 8, 9, 10, 15, 16, 17])] 138) (bodyOf Tryz.prog 138) [1, 1, 1, 1, 1, 1, 1, 1, 1, 1, 0, 1, 0] (endK Tryz.prog 138 K))) m) ?_) h
  funext fr m'
  apply propext
  constructor
  · rintro ⟨g', t6', k17', h1, h2, h3⟩
    exact ⟨(g', t6', k17'), h1, h2, h3⟩
  · rintro ⟨⟨g', t6', k17'⟩, h1, h2, h3⟩
    exact ⟨g', t6', k17', h1, h2, h3⟩

end Go.Proofs.Qxb6500974aGreat
