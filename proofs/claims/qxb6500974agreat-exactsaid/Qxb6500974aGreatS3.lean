import Derived.Test.Qxb6500974aGreatPure
set_option linter.all false
set_option linter.unusedVariables false
set_option maxRecDepth 100000
namespace Go.Proofs.Qxb6500974aGreat
open Go.Eng

def s61 (C : CallT) (s0 : Nat) (K : Value → Mem → Prop) (m : Mem) : Prop :=
  ldInt .i64 m s0 33 fun x_1 =>
  ifB (decide (x_1 < 4))
  (K (.tuple #[]) m)
  (loopE [0, 2] (evCode (cfgOf Tryz.prog pureF pureT C [(2, [0, 2])] 61) (codeAt (bodyOf Tryz.prog 61) [1, 1, 0, 0])) (kAt (cfgOf Tryz.prog pureF pureT C [(2, [0, 2])] 61) (bodyOf Tryz.prog 61) [1, 1, 0] (endK Tryz.prog 61 K)) [(0, (ptr s0 0)), (2, (.int .i64 0))] m)
theorem e61 (C : CallT) (s0 : Nat) (K : Value → Mem → Prop) (m : Mem) : evFn Tryz.prog pureF pureT C [(2, [0, 2])] 61 [(ptr s0 0)] K m = s61 C s0 K m := by kernel_rfl
theorem call61 {W0 : World} {s0 : Nat} {K : Value → Mem → Prop} {m : Mem} (h : s61 (callOK Tryz.prog W0) s0 K m) : callOK Tryz.prog W0 61 [(ptr s0 0)] K m :=
  evFn_sound pureOk mixedP (fun w => Tryz.call61 _ w) ((e61 (callOK Tryz.prog W0) s0 K m).symm ▸ h)
def s61_1 (C : CallT) (s0 : Nat) (k2 : Int) (Kt : Exit → Fr → Mem → Prop) (m : Mem) : Prop :=
  ifB (decide (k2 < 12))
  (ldInt .i64 m s0 33 fun x_2 =>
  ifB (decide (x_2 > 2))
  ((0 : Int) ≤ (IntKind.wrap .u64 k2) ∧
  ldInt .u16 m s0 32 fun x_3 =>
  ifB ((bAnd .u16 x_3 (shlV .u16 1 (IntKind.wrap .u64 k2))) != 0)
  (ldPtr m s0 2 fun p_4 =>
  C 46 [(.pointer p_4), (.int .i64 (IntKind.wrap .i64 (40 + k2)))] (fun rm_7 m_7 =>
  ∃ x_5a x_5l x_5c x_6, rm_7 = (.tuple #[(.slice x_5a x_5l x_5c), (.int .i64 x_6)]) ∧
  ldPtr m_7 s0 2 fun p_8 =>
  C 114 [(.pointer p_8), (.int .i64 (IntKind.wrap .i64 (40 + k2)))] (fun rm_10 m_10 =>
  ∃ x_9, rm_10 = (.int .i64 x_9) ∧
  ifB (x_9 == 0)
  (C 59 [(ptr s0 0), (.bool true), (.slice x_5a x_5l x_5c)] (fun rm_11 m_11 =>
  rm_11 = (.tuple #[]) ∧
  ldInt .u16 m_11 s0 32 fun x_12 =>
  st m_11 s0 32 (.int .u16 (bAndNot .u16 x_12 (shlV .u16 1 (IntKind.wrap .u64 k2)))) fun m_13 =>
  ldInt .i64 m_13 s0 33 fun x_14 =>
  st m_13 s0 33 (.int .i64 (IntKind.wrap .i64 (x_14 - 1))) fun m_15 =>
  Kt .normal [(0, (ptr s0 0)), (2, (.int .i64 (IntKind.wrap .i64 (k2 + 1))))] m_15) m_10)
  (Kt .normal [(0, (ptr s0 0)), (2, (.int .i64 (IntKind.wrap .i64 (k2 + 1))))] m_10)) m_7) m)
  (Kt .normal [(0, (ptr s0 0)), (2, (.int .i64 (IntKind.wrap .i64 (k2 + 1))))] m))
  (Kt (.exit 0) [(0, (ptr s0 0)), (2, (.int .i64 k2))] m))
  (Kt (.exit 0) [(0, (ptr s0 0)), (2, (.int .i64 k2))] m)
theorem e61_1 {C : CallT} {s0 : Nat} {k2 : Int} {Kt : Exit → Fr → Mem → Prop} {m : Mem} (h : s61_1 C s0 k2 Kt m) : evCode (cfgOf Tryz.prog pureF pureT C [(2, [0, 2])] 61) (codeAt (bodyOf Tryz.prog 61) [1, 1, 0, 0]) (trimK [0, 2] Kt) [(0, (ptr s0 0)), (2, (.int .i64 k2))] m :=
  (show _ = _ by kernel_rfl : evCode (cfgOf Tryz.prog pureF pureT C [(2, [0, 2])] 61) (codeAt (bodyOf Tryz.prog 61) [1, 1, 0, 0]) (trimK [0, 2] Kt) [(0, (ptr s0 0)), (2, (.int .i64 k2))] m = s61_1 C s0 k2 Kt m).symm ▸ h
def s61_1x0 (C : CallT) (s0 : Nat) (k2 : Int) (K : Value → Mem → Prop) (m : Mem) : Prop :=
  K (.tuple #[]) m
theorem e61_1x0 {C : CallT} {kn : Fr → Mem → Prop} {s0 : Nat} {k2 : Int} {K : Value → Mem → Prop} {m : Mem} : (andThenE kn (kAt (cfgOf Tryz.prog pureF pureT C [(2, [0, 2])] 61) (bodyOf Tryz.prog 61) [1, 1, 0] (endK Tryz.prog 61 K)) (.exit 0) [(0, (ptr s0 0)), (2, (.int .i64 k2))] m) = s61_1x0 C s0 k2 K m := by kernel_rfl
def F61_1 (s0 : Nat) (k2 : Int) : Fr := [(0, (ptr s0 0)), (2, (.int .i64 k2))]
theorem loop61_1 {C : CallT} {γ : Type} {s0 : Nat} {K : Value → Mem → Prop} {m : Mem} (J : γ → Int → Mem → Prop) (μ : γ → Int → Nat) (g : γ) {k2 : Int} (hJ : J g k2 m)
    (hs : ∀ g k2 m, J g k2 m → s61_1 C s0 k2 (andThenE (fun fr m' => ∃ g' k2', fr = F61_1 s0 k2' ∧ J g' k2' m' ∧ μ g' k2' < μ g k2) (kAt (cfgOf Tryz.prog pureF pureT C [(2, [0, 2])] 61) (bodyOf Tryz.prog 61) [1, 1, 0] (endK Tryz.prog 61 K))) m) :
    loopE [0, 2] (evCode (cfgOf Tryz.prog pureF pureT C [(2, [0, 2])] 61) (codeAt (bodyOf Tryz.prog 61) [1, 1, 0, 0])) (kAt (cfgOf Tryz.prog pureF pureT C [(2, [0, 2])] 61) (bodyOf Tryz.prog 61) [1, 1, 0] (endK Tryz.prog 61 K)) [(0, (ptr s0 0)), (2, (.int .i64 k2))] m := by
  refine loop_rule (σ := γ × Int) (fun s => F61_1 s0 s.2) (fun s m => J s.1 s.2 m) (fun s => μ s.1 s.2) (g, k2) rfl hJ ?_
  intro s m hJ
  have h := hs s.1 s.2 m hJ
  refine e61_1 ?_
  refine Eq.mp (congrArg (fun B => s61_1 C s0 s.2 (andThenE B (kAt (cfgOf Tryz.prog pureF pureT C [(2, [0, 2])] 61) (bodyOf Tryz.prog 61) [1, 1, 0] (endK Tryz.prog 61 K))) m) ?_) h
  funext fr m'
  apply propext
  constructor
  · rintro ⟨g', k2', h1, h2, h3⟩
    exact ⟨(g', k2'), h1, h2, h3⟩
  · rintro ⟨⟨g', k2'⟩, h1, h2, h3⟩
    exact ⟨g', k2', h1, h2, h3⟩

def s62 (C : CallT) (s0 : Nat) (c1a : Option Addr) (c1l c1c : Nat) (K : Value → Mem → Prop) (m : Mem) : Prop :=
  loopE [0, 1, 4] (evCode (cfgOf Tryz.prog pureF pureT C [(1, [0, 1, 4])] 62) (codeAt (bodyOf Tryz.prog 62) [0, 1, 0, 0])) (kAt (cfgOf Tryz.prog pureF pureT C [(1, [0, 1, 4])] 62) (bodyOf Tryz.prog 62) [0, 1, 0] (endK Tryz.prog 62 K)) [(0, (ptr s0 0)), (1, (.slice c1a c1l c1c)), (4, (.int .i64 0))] m
theorem e62 (C : CallT) (s0 : Nat) (c1a : Option Addr) (c1l c1c : Nat) (K : Value → Mem → Prop) (m : Mem) : evFn Tryz.prog pureF pureT C [(1, [0, 1, 4])] 62 [(ptr s0 0), (.slice c1a c1l c1c)] K m = s62 C s0 c1a c1l c1c K m := by kernel_rfl
theorem call62 {W0 : World} {s0 : Nat} {c1a : Option Addr} {c1l c1c : Nat} {K : Value → Mem → Prop} {m : Mem} (h : s62 (callOK Tryz.prog W0) s0 c1a c1l c1c K m) : callOK Tryz.prog W0 62 [(ptr s0 0), (.slice c1a c1l c1c)] K m :=
  evFn_sound pureOk mixedP (fun w => Tryz.call62 _ w) ((e62 (callOK Tryz.prog W0) s0 c1a c1l c1c K m).symm ▸ h)
def s62_1 (C : CallT) (s0 : Nat) (c1a : Option Addr) (c1l c1c : Nat) (i4 : Int) (Kt : Exit → Fr → Mem → Prop) (m : Mem) : Prop :=
  ifB (decide (i4 < ((c1l : Nat) : Int)))
  (ckP c1a fun b_1 o_1 =>
  ckI i4 c1l fun j_2 =>
  ldInt .i64 m b_1 (o_1 + j_2) fun x_3 =>
  ckI (goVar x_3) 13 fun j_4 =>
  ldInt .i64 m s0 (5 + j_4) fun x_5 =>
  ldInt .i64 m s0 31 fun x_6 =>
  ckI (goVar x_3) 13 fun j_7 =>
  st m s0 (5 + j_7) (.int .i64 (IntKind.wrap .i64 (x_5 + x_6))) fun m_8 =>
  Kt .normal [(0, (ptr s0 0)), (1, (.slice c1a c1l c1c)), (4, (.int .i64 (IntKind.wrap .i64 (i4 + 1))))] m_8)
  (Kt (.exit 0) [(0, (ptr s0 0)), (1, (.slice c1a c1l c1c)), (4, (.int .i64 i4))] m)
theorem e62_1 {C : CallT} {s0 : Nat} {c1a : Option Addr} {c1l c1c : Nat} {i4 : Int} {Kt : Exit → Fr → Mem → Prop} {m : Mem} (h : s62_1 C s0 c1a c1l c1c i4 Kt m) : evCode (cfgOf Tryz.prog pureF pureT C [(1, [0, 1, 4])] 62) (codeAt (bodyOf Tryz.prog 62) [0, 1, 0, 0]) (trimK [0, 1, 4] Kt) [(0, (ptr s0 0)), (1, (.slice c1a c1l c1c)), (4, (.int .i64 i4))] m :=
  (show _ = _ by kernel_rfl : evCode (cfgOf Tryz.prog pureF pureT C [(1, [0, 1, 4])] 62) (codeAt (bodyOf Tryz.prog 62) [0, 1, 0, 0]) (trimK [0, 1, 4] Kt) [(0, (ptr s0 0)), (1, (.slice c1a c1l c1c)), (4, (.int .i64 i4))] m = s62_1 C s0 c1a c1l c1c i4 Kt m).symm ▸ h
def s62_1x0 (C : CallT) (s0 : Nat) (c1a : Option Addr) (c1l c1c : Nat) (i4 : Int) (K : Value → Mem → Prop) (m : Mem) : Prop :=
  ldInt .i64 m s0 31 fun x_9 =>
  st m s0 31 (.int .i64 (IntKind.wrap .i64 (x_9 + 1))) fun m_10 =>
  K (.tuple #[]) m_10
theorem e62_1x0 {C : CallT} {kn : Fr → Mem → Prop} {s0 : Nat} {c1a : Option Addr} {c1l c1c : Nat} {i4 : Int} {K : Value → Mem → Prop} {m : Mem} : (andThenE kn (kAt (cfgOf Tryz.prog pureF pureT C [(1, [0, 1, 4])] 62) (bodyOf Tryz.prog 62) [0, 1, 0] (endK Tryz.prog 62 K)) (.exit 0) [(0, (ptr s0 0)), (1, (.slice c1a c1l c1c)), (4, (.int .i64 i4))] m) = s62_1x0 C s0 c1a c1l c1c i4 K m := by kernel_rfl
def F62_1 (s0 : Nat) (c1a : Option Addr) (c1l c1c : Nat) (i4 : Int) : Fr := [(0, (ptr s0 0)), (1, (.slice c1a c1l c1c)), (4, (.int .i64 i4))]
theorem loop62_1 {C : CallT} {γ : Type} {s0 : Nat} {c1a : Option Addr} {c1l c1c : Nat} {K : Value → Mem → Prop} {m : Mem} (J : γ → Int → Mem → Prop) (μ : γ → Int → Nat) (g : γ) {i4 : Int} (hJ : J g i4 m)
    (hs : ∀ g i4 m, J g i4 m → s62_1 C s0 c1a c1l c1c i4 (andThenE (fun fr m' => ∃ g' i4', fr = F62_1 s0 c1a c1l c1c i4' ∧ J g' i4' m' ∧ μ g' i4' < μ g i4) (kAt (cfgOf Tryz.prog pureF pureT C [(1, [0, 1, 4])] 62) (bodyOf Tryz.prog 62) [0, 1, 0] (endK Tryz.prog 62 K))) m) :
    loopE [0, 1, 4] (evCode (cfgOf Tryz.prog pureF pureT C [(1, [0, 1, 4])] 62) (codeAt (bodyOf Tryz.prog 62) [0, 1, 0, 0])) (kAt (cfgOf Tryz.prog pureF pureT C [(1, [0, 1, 4])] 62) (bodyOf Tryz.prog 62) [0, 1, 0] (endK Tryz.prog 62 K)) [(0, (ptr s0 0)), (1, (.slice c1a c1l c1c)), (4, (.int .i64 i4))] m := by
  refine loop_rule (σ := γ × Int) (fun s => F62_1 s0 c1a c1l c1c s.2) (fun s m => J s.1 s.2 m) (fun s => μ s.1 s.2) (g, i4) rfl hJ ?_
  intro s m hJ
  have h := hs s.1 s.2 m hJ
  refine e62_1 ?_
  refine Eq.mp (congrArg (fun B => s62_1 C s0 c1a c1l c1c s.2 (andThenE B (kAt (cfgOf Tryz.prog pureF pureT C [(1, [0, 1, 4])] 62) (bodyOf Tryz.prog 62) [0, 1, 0] (endK Tryz.prog 62 K))) m) ?_) h
  funext fr m'
  apply propext
  constructor
  · rintro ⟨g', i4', h1, h2, h3⟩
    exact ⟨(g', i4'), h1, h2, h3⟩
  · rintro ⟨⟨g', i4'⟩, h1, h2, h3⟩
    exact ⟨g', i4', h1, h2, h3⟩

def s63 (C : CallT) (s0 : Nat) (K : Value → Mem → Prop) (m : Mem) : Prop :=
  ldInt .i64 m s0 36 fun x_1 =>
  st m s0 36 (.int .i64 (IntKind.wrap .i64 (x_1 + 1))) fun m_2 =>
  ldInt .i64 m_2 s0 35 fun x_3 =>
  ifB (decide ((goInterval x_3) > 0))
  (ldInt .i64 m_2 s0 36 fun x_4 =>
  ifB (decide (x_4 ≥ (goInterval x_3)))
  (C 60 [(ptr s0 0), (.int .i64 0)] (fun rm_5 m_5 =>
  rm_5 = (.tuple #[]) ∧
  ldInt .i64 m_5 s0 35 fun x_6 =>
  st m_5 s0 35 (.int .i64 (IntKind.wrap .i64 (x_6 + 1))) fun m_7 =>
  st m_7 s0 36 (.int .i64 0) fun m_8 =>
  K (.tuple #[]) m_8) m_2)
  (K (.tuple #[]) m_2))
  (K (.tuple #[]) m_2)
theorem e63 (C : CallT) (s0 : Nat) (K : Value → Mem → Prop) (m : Mem) : evFn Tryz.prog pureF pureT C [] 63 [(ptr s0 0)] K m = s63 C s0 K m := by kernel_rfl
theorem call63 {W0 : World} {s0 : Nat} {K : Value → Mem → Prop} {m : Mem} (h : s63 (callOK Tryz.prog W0) s0 K m) : callOK Tryz.prog W0 63 [(ptr s0 0)] K m :=
  evFn_sound pureOk mixedP (fun w => Tryz.call63 _ w) ((e63 (callOK Tryz.prog W0) s0 K m).symm ▸ h)

def s64 (C : CallT) (p0 : Nat) (flat1a : Option Addr) (flat1l flat1c : Nat) (K : Value → Mem → Prop) (m : Mem) : Prop :=
  ifB (decide (((flat1l : Nat) : Int) > 262144))
  (K (.tuple #[(.string (ByteArray.mk #[])), (.int .i64 1)]) m)
  (C 115 [(.slice flat1a flat1l flat1c)] (fun rm_2 m_2 =>
  ∃ x_1, rm_2 = (.int .i64 x_1) ∧
  ifB (x_1 != 0)
  (K (.tuple #[(.string (ByteArray.mk #[])), (.int .i64 6)]) m_2)
  (loopE [1, 7, 8] (evCode (cfgOf Tryz.prog pureF pureT C [(8, [1, 7, 8]), (14, [1, 9, 10, 11])] 64) (codeAt (bodyOf Tryz.prog 64) [1, 1, 1, 1, 1, 0, 1, 0, 0])) (kAt (cfgOf Tryz.prog pureF pureT C [(8, [1, 7, 8]), (14, [1, 9, 10, 11])] 64) (bodyOf Tryz.prog 64) [1, 1, 1, 1, 1, 0, 1, 0] (endK Tryz.prog 64 K)) [(1, (.slice flat1a flat1l flat1c)), (7, (.int .i64 0)), (8, (.int .i64 0))] m_2)) m)
theorem e64 (C : CallT) (p0 : Nat) (flat1a : Option Addr) (flat1l flat1c : Nat) (K : Value → Mem → Prop) (m : Mem) : evFn Tryz.prog pureF pureT C [(8, [1, 7, 8]), (14, [1, 9, 10, 11])] 64 [(ptr p0 0), (.slice flat1a flat1l flat1c)] K m = s64 C p0 flat1a flat1l flat1c K m := by kernel_rfl
theorem call64 {W0 : World} {p0 : Nat} {flat1a : Option Addr} {flat1l flat1c : Nat} {K : Value → Mem → Prop} {m : Mem} (h : s64 (callOK Tryz.prog W0) p0 flat1a flat1l flat1c K m) : callOK Tryz.prog W0 64 [(ptr p0 0), (.slice flat1a flat1l flat1c)] K m :=
  evFn_sound pureOk mixedP (fun w => Tryz.call64 _ w) ((e64 (callOK Tryz.prog W0) p0 flat1a flat1l flat1c K m).symm ▸ h)
def s64_1 (C : CallT) (flat1a : Option Addr) (flat1l flat1c : Nat) (n7 : Int) (i8 : Int) (Kt : Exit → Fr → Mem → Prop) (m : Mem) : Prop :=
  ifB (decide (i8 < ((flat1l : Nat) : Int)))
  (ckP flat1a fun b_3 o_3 =>
  ckI i8 flat1l fun j_4 =>
  ldInt .i64 m b_3 (o_3 + j_4) fun x_5 =>
  Kt .normal [(1, (.slice flat1a flat1l flat1c)), (7, (.int .i64 (IntKind.wrap .i64 (n7 + (goWidth x_5))))), (8, (.int .i64 (IntKind.wrap .i64 (i8 + 1))))] m)
  (Kt (.exit 0) [(1, (.slice flat1a flat1l flat1c)), (7, (.int .i64 n7)), (8, (.int .i64 i8))] m)
theorem e64_1 {C : CallT} {flat1a : Option Addr} {flat1l flat1c : Nat} {n7 : Int} {i8 : Int} {Kt : Exit → Fr → Mem → Prop} {m : Mem} (h : s64_1 C flat1a flat1l flat1c n7 i8 Kt m) : evCode (cfgOf Tryz.prog pureF pureT C [(8, [1, 7, 8]), (14, [1, 9, 10, 11])] 64) (codeAt (bodyOf Tryz.prog 64) [1, 1, 1, 1, 1, 0, 1, 0, 0]) (trimK [1, 7, 8] Kt) [(1, (.slice flat1a flat1l flat1c)), (7, (.int .i64 n7)), (8, (.int .i64 i8))] m :=
  (show _ = _ by kernel_rfl : evCode (cfgOf Tryz.prog pureF pureT C [(8, [1, 7, 8]), (14, [1, 9, 10, 11])] 64) (codeAt (bodyOf Tryz.prog 64) [1, 1, 1, 1, 1, 0, 1, 0, 0]) (trimK [1, 7, 8] Kt) [(1, (.slice flat1a flat1l flat1c)), (7, (.int .i64 n7)), (8, (.int .i64 i8))] m = s64_1 C flat1a flat1l flat1c n7 i8 Kt m).symm ▸ h
def s64_1x0 (C : CallT) (flat1a : Option Addr) (flat1l flat1c : Nat) (n7 : Int) (i8 : Int) (K : Value → Mem → Prop) (m : Mem) : Prop :=
  mkSlice m [(.int .u8 0)] 1 n7 n7 fun b_6 m_7 =>
  loopE [1, 9, 10, 11] (evCode (cfgOf Tryz.prog pureF pureT C [(8, [1, 7, 8]), (14, [1, 9, 10, 11])] 64) (codeAt (bodyOf Tryz.prog 64) [1, 1, 1, 1, 1, 1, 1, 1, 0, 1, 0, 0])) (kAt (cfgOf Tryz.prog pureF pureT C [(8, [1, 7, 8]), (14, [1, 9, 10, 11])] 64) (bodyOf Tryz.prog 64) [1, 1, 1, 1, 1, 1, 1, 1, 0, 1, 0] (endK Tryz.prog 64 K)) [(1, (.slice flat1a flat1l flat1c)), (9, (.slice (some ⟨b_6, 0, none⟩) (Int.toNat n7) (Int.toNat n7))), (10, (.int .i64 0)), (11, (.int .i64 0))] m_7
theorem e64_1x0 {C : CallT} {kn : Fr → Mem → Prop} {flat1a : Option Addr} {flat1l flat1c : Nat} {n7 : Int} {i8 : Int} {K : Value → Mem → Prop} {m : Mem} : (andThenE kn (kAt (cfgOf Tryz.prog pureF pureT C [(8, [1, 7, 8]), (14, [1, 9, 10, 11])] 64) (bodyOf Tryz.prog 64) [1, 1, 1, 1, 1, 0, 1, 0] (endK Tryz.prog 64 K)) (.exit 0) [(1, (.slice flat1a flat1l flat1c)), (7, (.int .i64 n7)), (8, (.int .i64 i8))] m) = s64_1x0 C flat1a flat1l flat1c n7 i8 K m := by kernel_rfl
def s64_2 (C : CallT) (flat1a : Option Addr) (flat1l flat1c : Nat) (b9a : Option Addr) (b9l b9c : Nat) (at10 : Int) (i11 : Int) (Kt : Exit → Fr → Mem → Prop) (m : Mem) : Prop :=
  ifB (decide (i11 < ((flat1l : Nat) : Int)))
  (ckP flat1a fun b_8 o_8 =>
  ckI i11 flat1l fun j_9 =>
  ldInt .i64 m b_8 (o_8 + j_9) fun x_10 =>
  C 117 [(.slice b9a b9l b9c), (.int .i64 at10), (.int .i64 x_10)] (fun rm_12 m_12 =>
  ∃ x_11, rm_12 = (.int .i64 x_11) ∧
  Kt .normal [(1, (.slice flat1a flat1l flat1c)), (9, (.slice b9a b9l b9c)), (10, (.int .i64 x_11)), (11, (.int .i64 (IntKind.wrap .i64 (i11 + 1))))] m_12) m)
  (Kt (.exit 2) [(1, (.slice flat1a flat1l flat1c)), (9, (.slice b9a b9l b9c)), (10, (.int .i64 at10)), (11, (.int .i64 i11))] m)
theorem e64_2 {C : CallT} {flat1a : Option Addr} {flat1l flat1c : Nat} {b9a : Option Addr} {b9l b9c : Nat} {at10 : Int} {i11 : Int} {Kt : Exit → Fr → Mem → Prop} {m : Mem} (h : s64_2 C flat1a flat1l flat1c b9a b9l b9c at10 i11 Kt m) : evCode (cfgOf Tryz.prog pureF pureT C [(8, [1, 7, 8]), (14, [1, 9, 10, 11])] 64) (codeAt (bodyOf Tryz.prog 64) [1, 1, 1, 1, 1, 1, 1, 1, 0, 1, 0, 0]) (trimK [1, 9, 10, 11] Kt) [(1, (.slice flat1a flat1l flat1c)), (9, (.slice b9a b9l b9c)), (10, (.int .i64 at10)), (11, (.int .i64 i11))] m :=
  (show _ = _ by kernel_rfl : evCode (cfgOf Tryz.prog pureF pureT C [(8, [1, 7, 8]), (14, [1, 9, 10, 11])] 64) (codeAt (bodyOf Tryz.prog 64) [1, 1, 1, 1, 1, 1, 1, 1, 0, 1, 0, 0]) (trimK [1, 9, 10, 11] Kt) [(1, (.slice flat1a flat1l flat1c)), (9, (.slice b9a b9l b9c)), (10, (.int .i64 at10)), (11, (.int .i64 i11))] m = s64_2 C flat1a flat1l flat1c b9a b9l b9c at10 i11 Kt m).symm ▸ h
def s64_2x2 (C : CallT) (flat1a : Option Addr) (flat1l flat1c : Nat) (b9a : Option Addr) (b9l b9c : Nat) (at10 : Int) (i11 : Int) (K : Value → Mem → Prop) (m : Mem) : Prop :=
  rdBytes m b9a b9l fun s_13 =>
  K (.tuple #[(.string s_13), (.int .i64 0)]) m
theorem e64_2x2 {C : CallT} {kn : Fr → Mem → Prop} {flat1a : Option Addr} {flat1l flat1c : Nat} {b9a : Option Addr} {b9l b9c : Nat} {at10 : Int} {i11 : Int} {K : Value → Mem → Prop} {m : Mem} : (andThenE kn (kAt (cfgOf Tryz.prog pureF pureT C [(8, [1, 7, 8]), (14, [1, 9, 10, 11])] 64) (bodyOf Tryz.prog 64) [1, 1, 1, 1, 1, 1, 1, 1, 0, 1, 0] (endK Tryz.prog 64 K)) (.exit 2) [(1, (.slice flat1a flat1l flat1c)), (9, (.slice b9a b9l b9c)), (10, (.int .i64 at10)), (11, (.int .i64 i11))] m) = s64_2x2 C flat1a flat1l flat1c b9a b9l b9c at10 i11 K m := by kernel_rfl
def F64_1 (flat1a : Option Addr) (flat1l flat1c : Nat) (n7 : Int) (i8 : Int) : Fr := [(1, (.slice flat1a flat1l flat1c)), (7, (.int .i64 n7)), (8, (.int .i64 i8))]
theorem loop64_1 {C : CallT} {γ : Type} {flat1a : Option Addr} {flat1l flat1c : Nat} {K : Value → Mem → Prop} {m : Mem} (J : γ → Int → Int → Mem → Prop) (μ : γ → Int → Int → Nat) (g : γ) {n7 : Int} {i8 : Int} (hJ : J g n7 i8 m)
    (hs : ∀ g n7 i8 m, J g n7 i8 m → s64_1 C flat1a flat1l flat1c n7 i8 (andThenE (fun fr m' => ∃ g' n7' i8', fr = F64_1 flat1a flat1l flat1c n7' i8' ∧ J g' n7' i8' m' ∧ μ g' n7' i8' < μ g n7 i8) (kAt (cfgOf Tryz.prog pureF pureT C [(8, [1, 7, 8]), (14, [1, 9, 10, 11])] 64) (bodyOf Tryz.prog 64) [1, 1, 1, 1, 1, 0, 1, 0] (endK Tryz.prog 64 K))) m) :
    loopE [1, 7, 8] (evCode (cfgOf Tryz.prog pureF pureT C [(8, [1, 7, 8]), (14, [1, 9, 10, 11])] 64) (codeAt (bodyOf Tryz.prog 64) [1, 1, 1, 1, 1, 0, 1, 0, 0])) (kAt (cfgOf Tryz.prog pureF pureT C [(8, [1, 7, 8]), (14, [1, 9, 10, 11])] 64) (bodyOf Tryz.prog 64) [1, 1, 1, 1, 1, 0, 1, 0] (endK Tryz.prog 64 K)) [(1, (.slice flat1a flat1l flat1c)), (7, (.int .i64 n7)), (8, (.int .i64 i8))] m := by
  refine loop_rule (σ := γ × Int × Int) (fun s => F64_1 flat1a flat1l flat1c s.2.1 s.2.2) (fun s m => J s.1 s.2.1 s.2.2 m) (fun s => μ s.1 s.2.1 s.2.2) (g, n7, i8) rfl hJ ?_
  intro s m hJ
  have h := hs s.1 s.2.1 s.2.2 m hJ
  refine e64_1 ?_
  refine Eq.mp (congrArg (fun B => s64_1 C flat1a flat1l flat1c s.2.1 s.2.2 (andThenE B (kAt (cfgOf Tryz.prog pureF pureT C [(8, [1, 7, 8]), (14, [1, 9, 10, 11])] 64) (bodyOf Tryz.prog 64) [1, 1, 1, 1, 1, 0, 1, 0] (endK Tryz.prog 64 K))) m) ?_) h
  funext fr m'
  apply propext
  constructor
  · rintro ⟨g', n7', i8', h1, h2, h3⟩
    exact ⟨(g', n7', i8'), h1, h2, h3⟩
  · rintro ⟨⟨g', n7', i8'⟩, h1, h2, h3⟩
    exact ⟨g', n7', i8', h1, h2, h3⟩
def F64_2 (flat1a : Option Addr) (flat1l flat1c : Nat) (b9a : Option Addr) (b9l b9c : Nat) (at10 : Int) (i11 : Int) : Fr := [(1, (.slice flat1a flat1l flat1c)), (9, (.slice b9a b9l b9c)), (10, (.int .i64 at10)), (11, (.int .i64 i11))]
theorem loop64_2 {C : CallT} {γ : Type} {flat1a : Option Addr} {flat1l flat1c : Nat} {b9a : Option Addr} {b9l b9c : Nat} {K : Value → Mem → Prop} {m : Mem} (J : γ → Int → Int → Mem → Prop) (μ : γ → Int → Int → Nat) (g : γ) {at10 : Int} {i11 : Int} (hJ : J g at10 i11 m)
    (hs : ∀ g at10 i11 m, J g at10 i11 m → s64_2 C flat1a flat1l flat1c b9a b9l b9c at10 i11 (andThenE (fun fr m' => ∃ g' at10' i11', fr = F64_2 flat1a flat1l flat1c b9a b9l b9c at10' i11' ∧ J g' at10' i11' m' ∧ μ g' at10' i11' < μ g at10 i11) (kAt (cfgOf Tryz.prog pureF pureT C [(8, [1, 7, 8]), (14, [1, 9, 10, 11])] 64) (bodyOf Tryz.prog 64) [1, 1, 1, 1, 1, 1, 1, 1, 0, 1, 0] (endK Tryz.prog 64 K))) m) :
    loopE [1, 9, 10, 11] (evCode (cfgOf Tryz.prog pureF pureT C [(8, [1, 7, 8]), (14, [1, 9, 10, 11])] 64) (codeAt (bodyOf Tryz.prog 64) [1, 1, 1, 1, 1, 1, 1, 1, 0, 1, 0, 0])) (kAt (cfgOf Tryz.prog pureF pureT C [(8, [1, 7, 8]), (14, [1, 9, 10, 11])] 64) (bodyOf Tryz.prog 64) [1, 1, 1, 1, 1, 1, 1, 1, 0, 1, 0] (endK Tryz.prog 64 K)) [(1, (.slice flat1a flat1l flat1c)), (9, (.slice b9a b9l b9c)), (10, (.int .i64 at10)), (11, (.int .i64 i11))] m := by
  refine loop_rule (σ := γ × Int × Int) (fun s => F64_2 flat1a flat1l flat1c b9a b9l b9c s.2.1 s.2.2) (fun s m => J s.1 s.2.1 s.2.2 m) (fun s => μ s.1 s.2.1 s.2.2) (g, at10, i11) rfl hJ ?_
  intro s m hJ
  have h := hs s.1 s.2.1 s.2.2 m hJ
  refine e64_2 ?_
  refine Eq.mp (congrArg (fun B => s64_2 C flat1a flat1l flat1c b9a b9l b9c s.2.1 s.2.2 (andThenE B (kAt (cfgOf Tryz.prog pureF pureT C [(8, [1, 7, 8]), (14, [1, 9, 10, 11])] 64) (bodyOf Tryz.prog 64) [1, 1, 1, 1, 1, 1, 1, 1, 0, 1, 0] (endK Tryz.prog 64 K))) m) ?_) h
  funext fr m'
  apply propext
  constructor
  · rintro ⟨g', at10', i11', h1, h2, h3⟩
    exact ⟨(g', at10', i11'), h1, h2, h3⟩
  · rintro ⟨⟨g', at10', i11'⟩, h1, h2, h3⟩
    exact ⟨g', at10', i11', h1, h2, h3⟩

def s65 (C : CallT) (t0 : Nat) (l1 : Int) (K : Value → Mem → Prop) (m : Mem) : Prop :=
  ifB (!(goGoodLit l1))
  (K (.int .i64 0) m)
  (ifB (decide (l1 < 0))
  (ckI (IntKind.wrap .i64 (0 - l1)) 13 fun j_1 =>
  ldInt .i8 m t0 (15 + j_1) fun x_2 =>
  K (.int .i64 (IntKind.wrap .i64 (0 - (IntKind.wrap .i64 x_2)))) m)
  (ckI l1 13 fun j_3 =>
  ldInt .i8 m t0 (15 + j_3) fun x_4 =>
  K (.int .i64 (IntKind.wrap .i64 x_4)) m))
theorem e65 (C : CallT) (t0 : Nat) (l1 : Int) (K : Value → Mem → Prop) (m : Mem) : evFn Tryz.prog pureF pureT C [] 65 [(ptr t0 0), (.int .i64 l1)] K m = s65 C t0 l1 K m := by kernel_rfl
theorem call65 {W0 : World} {t0 : Nat} {l1 : Int} {K : Value → Mem → Prop} {m : Mem} (h : s65 (callOK Tryz.prog W0) t0 l1 K m) : callOK Tryz.prog W0 65 [(ptr t0 0), (.int .i64 l1)] K m :=
  evFn_sound pureOk mixedP (fun w => Tryz.call65 _ w) ((e65 (callOK Tryz.prog W0) t0 l1 K m).symm ▸ h)

def s68 (C : CallT) (t0 : Nat) (l1 : Int) (v2 : Int) (reason3 : Int) (K : Value → Mem → Prop) (m : Mem) : Prop :=
  ldInt .i64 m t0 12 fun x_1 =>
  ckI x_1 12 fun j_2 =>
  st m t0 (0 + j_2) (.int .i64 l1) fun m_3 =>
  ckI v2 13 fun j_4 =>
  st m_3 t0 (15 + j_4) (.int .i8 1) fun m_5 =>
  ifB (decide (l1 < 0))
  (ckI v2 13 fun j_6 =>
  st m_5 t0 (15 + j_6) (.int .i8 (-1)) fun m_7 =>
  ldInt .i64 m_7 t0 14 fun x_8 =>
  ckI v2 13 fun j_9 =>
  st m_7 t0 (28 + j_9) (.int .i64 x_8) fun m_10 =>
  ckI v2 13 fun j_11 =>
  st m_10 t0 (41 + j_11) (.int .i64 reason3) fun m_12 =>
  ldInt .i64 m_12 t0 12 fun x_13 =>
  ckI v2 13 fun j_14 =>
  st m_12 t0 (54 + j_14) (.int .i64 x_13) fun m_15 =>
  ldInt .i64 m_15 t0 12 fun x_16 =>
  st m_15 t0 12 (.int .i64 (IntKind.wrap .i64 (x_16 + 1))) fun m_17 =>
  K (.tuple #[]) m_17)
  (ldInt .i64 m_5 t0 14 fun x_18 =>
  ckI v2 13 fun j_19 =>
  st m_5 t0 (28 + j_19) (.int .i64 x_18) fun m_20 =>
  ckI v2 13 fun j_21 =>
  st m_20 t0 (41 + j_21) (.int .i64 reason3) fun m_22 =>
  ldInt .i64 m_22 t0 12 fun x_23 =>
  ckI v2 13 fun j_24 =>
  st m_22 t0 (54 + j_24) (.int .i64 x_23) fun m_25 =>
  ldInt .i64 m_25 t0 12 fun x_26 =>
  st m_25 t0 12 (.int .i64 (IntKind.wrap .i64 (x_26 + 1))) fun m_27 =>
  K (.tuple #[]) m_27)
theorem e68 (C : CallT) (t0 : Nat) (l1 : Int) (v2 : Int) (reason3 : Int) (K : Value → Mem → Prop) (m : Mem) : evFn Tryz.prog pureF pureT C [] 68 [(ptr t0 0), (.int .i64 l1), (.int .i64 v2), (.int .i64 reason3)] K m = s68 C t0 l1 v2 reason3 K m := by kernel_rfl
theorem call68 {W0 : World} {t0 : Nat} {l1 : Int} {v2 : Int} {reason3 : Int} {K : Value → Mem → Prop} {m : Mem} (h : s68 (callOK Tryz.prog W0) t0 l1 v2 reason3 K m) : callOK Tryz.prog W0 68 [(ptr t0 0), (.int .i64 l1), (.int .i64 v2), (.int .i64 reason3)] K m :=
  evFn_sound pureOk mixedP (fun w => Tryz.call68 _ w) ((e68 (callOK Tryz.prog W0) t0 l1 v2 reason3 K m).symm ▸ h)

def s69 (C : CallT) (flat0a : Option Addr) (flat0l flat0c : Nat) (at1 : Int) (K : Value → Mem → Prop) (m : Mem) : Prop :=
  allocB m (zeroBlk Tryz.prog 131) fun b_1 m_2 =>
  allocB m_2 (zeroBlk Tryz.prog 131) fun b_3 m_4 =>
  stL m_4 b_3 0 [(.int .u16 0), (.int .u16 0), (.bool false), (.int .i64 0)] fun m_5 =>
  ckP flat0a fun b_6 o_6 =>
  ckI at1 flat0l fun j_7 =>
  ldInt .i64 m_5 b_6 (o_6 + j_7) fun x_8 =>
  ifB (x_8 == 13)
  (st m_5 b_3 2 (.bool true) fun m_9 =>
  loopE [0, 1, 4, 5] (evCode (cfgOf Tryz.prog pureF pureT C [(5, [0, 1, 4, 5])] 69) (codeAt (bodyOf Tryz.prog 69) [1, 1, 1, 0, 0, 0])) (kAt (cfgOf Tryz.prog pureF pureT C [(5, [0, 1, 4, 5])] 69) (bodyOf Tryz.prog 69) [1, 1, 1, 0, 0] (endK Tryz.prog 69 K)) [(0, (.slice flat0a flat0l flat0c)), (1, (.int .i64 (IntKind.wrap .i64 (at1 + 1)))), (4, (ptr b_1 0)), (5, (ptr b_3 0))] m_9)
  (loopE [0, 1, 4, 5] (evCode (cfgOf Tryz.prog pureF pureT C [(5, [0, 1, 4, 5])] 69) (codeAt (bodyOf Tryz.prog 69) [1, 1, 1, 0, 0, 0])) (kAt (cfgOf Tryz.prog pureF pureT C [(5, [0, 1, 4, 5])] 69) (bodyOf Tryz.prog 69) [1, 1, 1, 0, 0] (endK Tryz.prog 69 K)) [(0, (.slice flat0a flat0l flat0c)), (1, (.int .i64 at1)), (4, (ptr b_1 0)), (5, (ptr b_3 0))] m_5)
theorem e69 (C : CallT) (flat0a : Option Addr) (flat0l flat0c : Nat) (at1 : Int) (K : Value → Mem → Prop) (m : Mem) : evFn Tryz.prog pureF pureT C [(5, [0, 1, 4, 5])] 69 [(.slice flat0a flat0l flat0c), (.int .i64 at1)] K m = s69 C flat0a flat0l flat0c at1 K m := by kernel_rfl
theorem call69 {W0 : World} {flat0a : Option Addr} {flat0l flat0c : Nat} {at1 : Int} {K : Value → Mem → Prop} {m : Mem} (h : s69 (callOK Tryz.prog W0) flat0a flat0l flat0c at1 K m) : callOK Tryz.prog W0 69 [(.slice flat0a flat0l flat0c), (.int .i64 at1)] K m :=
  evFn_sound pureOk mixedP (fun w => Tryz.call69 _ w) ((e69 (callOK Tryz.prog W0) flat0a flat0l flat0c at1 K m).symm ▸ h)
def s69_1 (C : CallT) (flat0a : Option Addr) (flat0l flat0c : Nat) (at1 : Int) (t4 : Nat) (r5 : Nat) (Kt : Exit → Fr → Mem → Prop) (m : Mem) : Prop :=
  ifB (decide (at1 < ((flat0l : Nat) : Int)))
  (ckP flat0a fun b_10 o_10 =>
  ckI at1 flat0l fun j_11 =>
  ldInt .i64 m b_10 (o_10 + j_11) fun x_12 =>
  ifB (x_12 != 0)
  (ckP flat0a fun b_13 o_13 =>
  ckI at1 flat0l fun j_14 =>
  ldInt .i64 m b_13 (o_13 + j_14) fun x_15 =>
  ifB (decide (x_15 > 0))
  (ldInt .u16 m r5 0 fun x_16 =>
  st m r5 0 (.int .u16 (bOr .u16 x_16 (goBitOf x_15))) fun m_17 =>
  Kt .normal [(0, (.slice flat0a flat0l flat0c)), (1, (.int .i64 (IntKind.wrap .i64 (at1 + 1)))), (4, (ptr t4 0)), (5, (ptr r5 0))] m_17)
  (ldInt .u16 m r5 1 fun x_18 =>
  st m r5 1 (.int .u16 (bOr .u16 x_18 (goBitOf (IntKind.wrap .i64 (0 - x_15))))) fun m_19 =>
  Kt .normal [(0, (.slice flat0a flat0l flat0c)), (1, (.int .i64 (IntKind.wrap .i64 (at1 + 1)))), (4, (ptr t4 0)), (5, (ptr r5 0))] m_19))
  (Kt (.exit 0) [(0, (.slice flat0a flat0l flat0c)), (1, (.int .i64 at1)), (4, (ptr t4 0)), (5, (ptr r5 0))] m))
  (Kt (.exit 0) [(0, (.slice flat0a flat0l flat0c)), (1, (.int .i64 at1)), (4, (ptr t4 0)), (5, (ptr r5 0))] m)
theorem e69_1 {C : CallT} {flat0a : Option Addr} {flat0l flat0c : Nat} {at1 : Int} {t4 : Nat} {r5 : Nat} {Kt : Exit → Fr → Mem → Prop} {m : Mem} (h : s69_1 C flat0a flat0l flat0c at1 t4 r5 Kt m) : evCode (cfgOf Tryz.prog pureF pureT C [(5, [0, 1, 4, 5])] 69) (codeAt (bodyOf Tryz.prog 69) [1, 1, 1, 0, 0, 0]) (trimK [0, 1, 4, 5] Kt) [(0, (.slice flat0a flat0l flat0c)), (1, (.int .i64 at1)), (4, (ptr t4 0)), (5, (ptr r5 0))] m :=
  (show _ = _ by kernel_rfl : evCode (cfgOf Tryz.prog pureF pureT C [(5, [0, 1, 4, 5])] 69) (codeAt (bodyOf Tryz.prog 69) [1, 1, 1, 0, 0, 0]) (trimK [0, 1, 4, 5] Kt) [(0, (.slice flat0a flat0l flat0c)), (1, (.int .i64 at1)), (4, (ptr t4 0)), (5, (ptr r5 0))] m = s69_1 C flat0a flat0l flat0c at1 t4 r5 Kt m).symm ▸ h
def s69_1x0 (C : CallT) (flat0a : Option Addr) (flat0l flat0c : Nat) (at1 : Int) (t4 : Nat) (r5 : Nat) (K : Value → Mem → Prop) (m : Mem) : Prop :=
  st m r5 3 (.int .i64 (IntKind.wrap .i64 (at1 + 1))) fun m_20 =>
  ldInt .u16 m_20 r5 0 fun x_21 =>
  ldInt .u16 m_20 r5 1 fun x_22 =>
  ldBool m_20 r5 2 fun y_23 =>
  ldInt .i64 m_20 r5 3 fun x_24 =>
  stL m_20 t4 0 [(.int .u16 x_21), (.int .u16 x_22), (.bool y_23), (.int .i64 x_24)] fun m_25 =>
  ldInt .u16 m_25 t4 0 fun x_26 =>
  ldInt .u16 m_25 t4 1 fun x_27 =>
  ldBool m_25 t4 2 fun y_28 =>
  ldInt .i64 m_25 t4 3 fun x_29 =>
  K (.agg #[(.int .u16 x_26), (.int .u16 x_27), (.bool y_28), (.int .i64 x_29)]) m_25
theorem e69_1x0 {C : CallT} {kn : Fr → Mem → Prop} {flat0a : Option Addr} {flat0l flat0c : Nat} {at1 : Int} {t4 : Nat} {r5 : Nat} {K : Value → Mem → Prop} {m : Mem} : (andThenE kn (kAt (cfgOf Tryz.prog pureF pureT C [(5, [0, 1, 4, 5])] 69) (bodyOf Tryz.prog 69) [1, 1, 1, 0, 0] (endK Tryz.prog 69 K)) (.exit 0) [(0, (.slice flat0a flat0l flat0c)), (1, (.int .i64 at1)), (4, (ptr t4 0)), (5, (ptr r5 0))] m) = s69_1x0 C flat0a flat0l flat0c at1 t4 r5 K m := by kernel_rfl
def F69_1 (flat0a : Option Addr) (flat0l flat0c : Nat) (at1 : Int) (t4 : Nat) (r5 : Nat) : Fr := [(0, (.slice flat0a flat0l flat0c)), (1, (.int .i64 at1)), (4, (ptr t4 0)), (5, (ptr r5 0))]
theorem loop69_1 {C : CallT} {γ : Type} {flat0a : Option Addr} {flat0l flat0c : Nat} {t4 : Nat} {r5 : Nat} {K : Value → Mem → Prop} {m : Mem} (J : γ → Int → Mem → Prop) (μ : γ → Int → Nat) (g : γ) {at1 : Int} (hJ : J g at1 m)
    (hs : ∀ g at1 m, J g at1 m → s69_1 C flat0a flat0l flat0c at1 t4 r5 (andThenE (fun fr m' => ∃ g' at1', fr = F69_1 flat0a flat0l flat0c at1' t4 r5 ∧ J g' at1' m' ∧ μ g' at1' < μ g at1) (kAt (cfgOf Tryz.prog pureF pureT C [(5, [0, 1, 4, 5])] 69) (bodyOf Tryz.prog 69) [1, 1, 1, 0, 0] (endK Tryz.prog 69 K))) m) :
    loopE [0, 1, 4, 5] (evCode (cfgOf Tryz.prog pureF pureT C [(5, [0, 1, 4, 5])] 69) (codeAt (bodyOf Tryz.prog 69) [1, 1, 1, 0, 0, 0])) (kAt (cfgOf Tryz.prog pureF pureT C [(5, [0, 1, 4, 5])] 69) (bodyOf Tryz.prog 69) [1, 1, 1, 0, 0] (endK Tryz.prog 69 K)) [(0, (.slice flat0a flat0l flat0c)), (1, (.int .i64 at1)), (4, (ptr t4 0)), (5, (ptr r5 0))] m := by
  refine loop_rule (σ := γ × Int) (fun s => F69_1 flat0a flat0l flat0c s.2 t4 r5) (fun s m => J s.1 s.2 m) (fun s => μ s.1 s.2) (g, at1) rfl hJ ?_
  intro s m hJ
  have h := hs s.1 s.2 m hJ
  refine e69_1 ?_
  refine Eq.mp (congrArg (fun B => s69_1 C flat0a flat0l flat0c s.2 t4 r5 (andThenE B (kAt (cfgOf Tryz.prog pureF pureT C [(5, [0, 1, 4, 5])] 69) (bodyOf Tryz.prog 69) [1, 1, 1, 0, 0] (endK Tryz.prog 69 K))) m) ?_) h
  funext fr m'
  apply propext
  constructor
  · rintro ⟨g', at1', h1, h2, h3⟩
    exact ⟨(g', at1'), h1, h2, h3⟩
  · rintro ⟨⟨g', at1'⟩, h1, h2, h3⟩
    exact ⟨g', at1', h1, h2, h3⟩

def s70 (C : CallT) (k0 : Nat) (p1 : Int) (n2 : Int) (K : Value → Mem → Prop) (m : Mem) : Prop :=
  ldInt .u64 m k0 129 fun x_1 =>
  C 119 [(.int .u64 (bXor .u64 (IntKind.max .u64) x_1))] (fun rm_3 m_3 =>
  ∃ x_2, rm_3 = (.int .i64 x_2) ∧
  ckI x_2 64 fun j_4 =>
  st m_3 k0 (1 + j_4) (.int .u16 p1) fun m_5 =>
  ckI x_2 64 fun j_6 =>
  st m_5 k0 (65 + j_6) (.int .u16 n2) fun m_7 =>
  ldInt .u64 m_7 k0 129 fun x_8 =>
  st m_7 k0 129 (.int .u64 (bOr .u64 x_8 (goSlotBit x_2))) fun m_9 =>
  ifB ((bOr .u16 p1 n2) == 0)
  (ldInt .i64 m_9 k0 130 fun x_10 =>
  st m_9 k0 130 (.int .i64 (IntKind.wrap .i64 (x_10 + 1))) fun m_11 =>
  K (.tuple #[]) m_11)
  (K (.tuple #[]) m_9)) m
theorem e70 (C : CallT) (k0 : Nat) (p1 : Int) (n2 : Int) (K : Value → Mem → Prop) (m : Mem) : evFn Tryz.prog pureF pureT C [] 70 [(ptr k0 0), (.int .u16 p1), (.int .u16 n2)] K m = s70 C k0 p1 n2 K m := by kernel_rfl
theorem call70 {W0 : World} {k0 : Nat} {p1 : Int} {n2 : Int} {K : Value → Mem → Prop} {m : Mem} (h : s70 (callOK Tryz.prog W0) k0 p1 n2 K m) : callOK Tryz.prog W0 70 [(ptr k0 0), (.int .u16 p1), (.int .u16 n2)] K m :=
  evFn_sound pureOk mixedP (fun w => Tryz.call70 _ w) ((e70 (callOK Tryz.prog W0) k0 p1 n2 K m).symm ▸ h)

def s71 (C : CallT) (k0 : Nat) (r1_0 : Int) (r1_1 : Int) (r1_2 : Bool) (r1_3 : Int) (K : Value → Mem → Prop) (m : Mem) : Prop :=
  allocB m (Blk.ofList [(.int .u16 r1_0), (.int .u16 r1_1), (.bool r1_2), (.int .i64 r1_3)]) fun b_1 m_2 =>
  ldBool m_2 b_1 2 fun y_3 =>
  ifB y_3
  (ldInt .u16 m_2 b_1 0 fun x_4 =>
  ldInt .u16 m_2 b_1 1 fun x_5 =>
  C 120 [(ptr k0 0), (.int .u16 x_4), (.int .u16 x_5)] (fun rm_7 m_7 =>
  ∃ x_6, rm_7 = (.int .i64 x_6) ∧
  ifB (decide (x_6 < 0))
  (K (.int .i64 19) m_7)
  (C 121 [(ptr k0 0), (.int .i64 x_6)] (fun rm_8 m_8 =>
  rm_8 = (.tuple #[]) ∧
  K (.int .i64 0) m_8) m_7)) m_2)
  (ldInt .u16 m_2 b_1 0 fun x_9 =>
  ldInt .u16 m_2 b_1 1 fun x_10 =>
  C 122 [(ptr k0 0), (.int .u16 x_9), (.int .u16 x_10)] (fun rm_12 m_12 =>
  ∃ x_11, rm_12 = (.bool x_11) ∧
  ifB (!x_11)
  (K (.int .i64 18) m_12)
  (ldInt .u64 m_12 k0 129 fun x_13 =>
  ifB (x_13 == 18446744073709551615)
  (K (.int .i64 12) m_12)
  (ldInt .u16 m_12 b_1 0 fun x_14 =>
  ldInt .u16 m_12 b_1 1 fun x_15 =>
  C 70 [(ptr k0 0), (.int .u16 x_14), (.int .u16 x_15)] (fun rm_16 m_16 =>
  rm_16 = (.tuple #[]) ∧
  K (.int .i64 0) m_16) m_12))) m_2)
theorem e71 (C : CallT) (k0 : Nat) (r1_0 : Int) (r1_1 : Int) (r1_2 : Bool) (r1_3 : Int) (K : Value → Mem → Prop) (m : Mem) : evFn Tryz.prog pureF pureT C [] 71 [(ptr k0 0), (.agg #[(.int .u16 r1_0), (.int .u16 r1_1), (.bool r1_2), (.int .i64 r1_3)])] K m = s71 C k0 r1_0 r1_1 r1_2 r1_3 K m := by kernel_rfl
theorem call71 {W0 : World} {k0 : Nat} {r1_0 : Int} {r1_1 : Int} {r1_2 : Bool} {r1_3 : Int} {K : Value → Mem → Prop} {m : Mem} (h : s71 (callOK Tryz.prog W0) k0 r1_0 r1_1 r1_2 r1_3 K m) : callOK Tryz.prog W0 71 [(ptr k0 0), (.agg #[(.int .u16 r1_0), (.int .u16 r1_1), (.bool r1_2), (.int .i64 r1_3)])] K m :=
  evFn_sound pureOk mixedP (fun w => Tryz.call71 _ w) ((e71 (callOK Tryz.prog W0) k0 r1_0 r1_1 r1_2 r1_3 K m).symm ▸ h)

def s72 (C : CallT) (s0 : Nat) (text1 : ByteArray) (K : Value → Mem → Prop) (m : Mem) : Prop :=
  allocB m (zeroBlk Tryz.prog 39) fun b_1 m_2 =>
  ldPtr m_2 s0 0 fun p_3 =>
  C 73 [(.pointer p_3), (.string text1)] (fun rm_7 m_7 =>
  ∃ x_4a x_4l x_4c x_5 x_6, rm_7 = (.tuple #[(.slice x_4a x_4l x_4c), (.int .i64 x_5), (.int .i64 x_6)]) ∧
  ifB (x_5 != 0)
  (stL m_7 b_1 0 [(.int .i64 x_5), (.int .i64 x_6), (.bool false), (.slice none 0 0), (.string (ByteArray.mk #[])), (.int .i64 0), (.int .i64 0)] fun m_8 =>
  ldInt .i64 m_8 b_1 0 fun x_9 =>
  ldInt .i64 m_8 b_1 1 fun x_10 =>
  ldBool m_8 b_1 2 fun y_11 =>
  ldSl m_8 b_1 3 fun l_12a l_12l l_12c =>
  ldStr m_8 b_1 4 fun s_13 =>
  ldInt .i64 m_8 b_1 5 fun x_14 =>
  ldInt .i64 m_8 b_1 6 fun x_15 =>
  K (.agg #[(.int .i64 x_9), (.int .i64 x_10), (.bool y_11), (.slice l_12a l_12l l_12c), (.string s_13), (.int .i64 x_14), (.int .i64 x_15)]) m_8)
  (C 89 [(.slice x_4a x_4l x_4c)] (fun rm_17 m_17 =>
  ∃ x_16, rm_17 = (.int .i64 x_16) ∧
  ifB (decide (x_16 < 0))
  (C 123 [(.slice x_4a x_4l x_4c), (.slice none 0 0), (.int .i64 0), (.slice none 0 0)] (fun rm_19 m_19 =>
  ∃ x_18a x_18l x_18c, rm_19 = (.slice x_18a x_18l x_18c) ∧
  ldPtr m_19 s0 0 fun p_20 =>
  C 81 [(.pointer p_20), (.slice x_18a x_18l x_18c)] (fun rm_23 m_23 =>
  ∃ x_21 x_22, rm_23 = (.tuple #[(.string x_21), (.int .i64 x_22)]) ∧
  stL m_23 b_1 0 [(.int .i64 0), (.int .i64 0), (.bool false), (.slice none 0 0), (.string x_21), (.int .i64 0), (.int .i64 0)] fun m_24 =>
  ldInt .i64 m_24 b_1 0 fun x_25 =>
  ldInt .i64 m_24 b_1 1 fun x_26 =>
  ldBool m_24 b_1 2 fun y_27 =>
  ldSl m_24 b_1 3 fun l_28a l_28l l_28c =>
  ldStr m_24 b_1 4 fun s_29 =>
  ldInt .i64 m_24 b_1 5 fun x_30 =>
  ldInt .i64 m_24 b_1 6 fun x_31 =>
  K (.agg #[(.int .i64 x_25), (.int .i64 x_26), (.bool y_27), (.slice l_28a l_28l l_28c), (.string s_29), (.int .i64 x_30), (.int .i64 x_31)]) m_24) m_19) m_17)
  (mkSlice m_17 [(.int .i64 0)] 8 12 12 fun b_32 m_33 =>
  loopE [4, 8, 12, 13] (evCode (cfgOf Tryz.prog pureF pureT C [(11, [4, 8, 12, 13])] 72) (codeAt (bodyOf Tryz.prog 72) [1, 1, 1, 1, 1, 1, 0, 1, 0, 0])) (kAt (cfgOf Tryz.prog pureF pureT C [(11, [4, 8, 12, 13])] 72) (bodyOf Tryz.prog 72) [1, 1, 1, 1, 1, 1, 0, 1, 0] (endK Tryz.prog 72 K)) [(4, (ptr b_1 0)), (8, (.int .i64 x_16)), (12, (.slice (some ⟨b_32, 0, none⟩) (Int.toNat 12) (Int.toNat 12))), (13, (.int .i64 1))] m_33)) m_7)) m_2
theorem e72 (C : CallT) (s0 : Nat) (text1 : ByteArray) (K : Value → Mem → Prop) (m : Mem) : evFn Tryz.prog pureF pureT C [(11, [4, 8, 12, 13])] 72 [(ptr s0 0), (.string text1)] K m = s72 C s0 text1 K m := by kernel_rfl
theorem call72 {W0 : World} {s0 : Nat} {text1 : ByteArray} {K : Value → Mem → Prop} {m : Mem} (h : s72 (callOK Tryz.prog W0) s0 text1 K m) : callOK Tryz.prog W0 72 [(ptr s0 0), (.string text1)] K m :=
  evFn_sound pureOk mixedP (fun w => Tryz.call72 _ w) ((e72 (callOK Tryz.prog W0) s0 text1 K m).symm ▸ h)
def s72_1 (C : CallT) (t4 : Nat) (mask8 : Int) (model12a : Option Addr) (model12l model12c : Nat) (v13 : Int) (Kt : Exit → Fr → Mem → Prop) (m : Mem) : Prop :=
  ifB (decide (v13 ≤ 12))
  (ckP model12a fun b_34 o_34 =>
  ckI (IntKind.wrap .i64 (v13 - 1)) model12l fun j_35 =>
  st m b_34 (o_34 + j_35) (.int .i64 (IntKind.wrap .i64 (0 - v13))) fun m_36 =>
  ifB (goTrue v13 mask8)
  (ckP model12a fun b_37 o_37 =>
  ckI (IntKind.wrap .i64 (v13 - 1)) model12l fun j_38 =>
  st m_36 b_37 (o_37 + j_38) (.int .i64 v13) fun m_39 =>
  Kt .normal [(4, (ptr t4 0)), (8, (.int .i64 mask8)), (12, (.slice model12a model12l model12c)), (13, (.int .i64 (IntKind.wrap .i64 (v13 + 1))))] m_39)
  (Kt .normal [(4, (ptr t4 0)), (8, (.int .i64 mask8)), (12, (.slice model12a model12l model12c)), (13, (.int .i64 (IntKind.wrap .i64 (v13 + 1))))] m_36))
  (Kt (.exit 0) [(4, (ptr t4 0)), (8, (.int .i64 mask8)), (12, (.slice model12a model12l model12c)), (13, (.int .i64 v13))] m)
theorem e72_1 {C : CallT} {t4 : Nat} {mask8 : Int} {model12a : Option Addr} {model12l model12c : Nat} {v13 : Int} {Kt : Exit → Fr → Mem → Prop} {m : Mem} (h : s72_1 C t4 mask8 model12a model12l model12c v13 Kt m) : evCode (cfgOf Tryz.prog pureF pureT C [(11, [4, 8, 12, 13])] 72) (codeAt (bodyOf Tryz.prog 72) [1, 1, 1, 1, 1, 1, 0, 1, 0, 0]) (trimK [4, 8, 12, 13] Kt) [(4, (ptr t4 0)), (8, (.int .i64 mask8)), (12, (.slice model12a model12l model12c)), (13, (.int .i64 v13))] m :=
  (show _ = _ by kernel_rfl : evCode (cfgOf Tryz.prog pureF pureT C [(11, [4, 8, 12, 13])] 72) (codeAt (bodyOf Tryz.prog 72) [1, 1, 1, 1, 1, 1, 0, 1, 0, 0]) (trimK [4, 8, 12, 13] Kt) [(4, (ptr t4 0)), (8, (.int .i64 mask8)), (12, (.slice model12a model12l model12c)), (13, (.int .i64 v13))] m = s72_1 C t4 mask8 model12a model12l model12c v13 Kt m).symm ▸ h
def s72_1x0 (C : CallT) (t4 : Nat) (mask8 : Int) (model12a : Option Addr) (model12l model12c : Nat) (v13 : Int) (K : Value → Mem → Prop) (m : Mem) : Prop :=
  stL m t4 0 [(.int .i64 0), (.int .i64 0), (.bool true), (.slice model12a model12l model12c), (.string (ByteArray.mk #[])), (.int .i64 0), (.int .i64 0)] fun m_40 =>
  ldInt .i64 m_40 t4 0 fun x_41 =>
  ldInt .i64 m_40 t4 1 fun x_42 =>
  ldBool m_40 t4 2 fun y_43 =>
  ldSl m_40 t4 3 fun l_44a l_44l l_44c =>
  ldStr m_40 t4 4 fun s_45 =>
  ldInt .i64 m_40 t4 5 fun x_46 =>
  ldInt .i64 m_40 t4 6 fun x_47 =>
  K (.agg #[(.int .i64 x_41), (.int .i64 x_42), (.bool y_43), (.slice l_44a l_44l l_44c), (.string s_45), (.int .i64 x_46), (.int .i64 x_47)]) m_40
theorem e72_1x0 {C : CallT} {kn : Fr → Mem → Prop} {t4 : Nat} {mask8 : Int} {model12a : Option Addr} {model12l model12c : Nat} {v13 : Int} {K : Value → Mem → Prop} {m : Mem} : (andThenE kn (kAt (cfgOf Tryz.prog pureF pureT C [(11, [4, 8, 12, 13])] 72) (bodyOf Tryz.prog 72) [1, 1, 1, 1, 1, 1, 0, 1, 0] (endK Tryz.prog 72 K)) (.exit 0) [(4, (ptr t4 0)), (8, (.int .i64 mask8)), (12, (.slice model12a model12l model12c)), (13, (.int .i64 v13))] m) = s72_1x0 C t4 mask8 model12a model12l model12c v13 K m := by kernel_rfl
def F72_1 (t4 : Nat) (mask8 : Int) (model12a : Option Addr) (model12l model12c : Nat) (v13 : Int) : Fr := [(4, (ptr t4 0)), (8, (.int .i64 mask8)), (12, (.slice model12a model12l model12c)), (13, (.int .i64 v13))]
theorem loop72_1 {C : CallT} {γ : Type} {t4 : Nat} {mask8 : Int} {model12a : Option Addr} {model12l model12c : Nat} {K : Value → Mem → Prop} {m : Mem} (J : γ → Int → Mem → Prop) (μ : γ → Int → Nat) (g : γ) {v13 : Int} (hJ : J g v13 m)
    (hs : ∀ g v13 m, J g v13 m → s72_1 C t4 mask8 model12a model12l model12c v13 (andThenE (fun fr m' => ∃ g' v13', fr = F72_1 t4 mask8 model12a model12l model12c v13' ∧ J g' v13' m' ∧ μ g' v13' < μ g v13) (kAt (cfgOf Tryz.prog pureF pureT C [(11, [4, 8, 12, 13])] 72) (bodyOf Tryz.prog 72) [1, 1, 1, 1, 1, 1, 0, 1, 0] (endK Tryz.prog 72 K))) m) :
    loopE [4, 8, 12, 13] (evCode (cfgOf Tryz.prog pureF pureT C [(11, [4, 8, 12, 13])] 72) (codeAt (bodyOf Tryz.prog 72) [1, 1, 1, 1, 1, 1, 0, 1, 0, 0])) (kAt (cfgOf Tryz.prog pureF pureT C [(11, [4, 8, 12, 13])] 72) (bodyOf Tryz.prog 72) [1, 1, 1, 1, 1, 1, 0, 1, 0] (endK Tryz.prog 72 K)) [(4, (ptr t4 0)), (8, (.int .i64 mask8)), (12, (.slice model12a model12l model12c)), (13, (.int .i64 v13))] m := by
  refine loop_rule (σ := γ × Int) (fun s => F72_1 t4 mask8 model12a model12l model12c s.2) (fun s m => J s.1 s.2 m) (fun s => μ s.1 s.2) (g, v13) rfl hJ ?_
  intro s m hJ
  have h := hs s.1 s.2 m hJ
  refine e72_1 ?_
  refine Eq.mp (congrArg (fun B => s72_1 C t4 mask8 model12a model12l model12c s.2 (andThenE B (kAt (cfgOf Tryz.prog pureF pureT C [(11, [4, 8, 12, 13])] 72) (bodyOf Tryz.prog 72) [1, 1, 1, 1, 1, 1, 0, 1, 0] (endK Tryz.prog 72 K))) m) ?_) h
  funext fr m'
  apply propext
  constructor
  · rintro ⟨g', v13', h1, h2, h3⟩
    exact ⟨(g', v13'), h1, h2, h3⟩
  · rintro ⟨⟨g', v13'⟩, h1, h2, h3⟩
    exact ⟨g', v13', h1, h2, h3⟩

def s73 (C : CallT) (p0 : Nat) (text1 : ByteArray) (K : Value → Mem → Prop) (m : Mem) : Prop :=
  C 80 [(ptr p0 0), (.string text1)] (fun rm_4 m_4 =>
  ∃ x_1 x_2 x_3a x_3l x_3c, rm_4 = (.agg #[(.int .i64 x_1), (.int .i64 x_2), (.slice x_3a x_3l x_3c)]) ∧
  allocB m_4 (zeroBlk Tryz.prog 73) fun b_5 m_6 =>
  stL m_6 b_5 0 [(.int .i64 x_1), (.int .i64 x_2), (.slice x_3a x_3l x_3c)] fun m_7 =>
  ldInt .i64 m_7 b_5 0 fun x_8 =>
  ifB (x_8 != 0)
  (ldInt .i64 m_7 b_5 0 fun x_9 =>
  ldInt .i64 m_7 b_5 1 fun x_10 =>
  K (.tuple #[(.slice none 0 0), (.int .i64 x_9), (.int .i64 x_10)]) m_7)
  (ldSl m_7 b_5 2 fun l_11a l_11l l_11c =>
  C 82 [(.slice l_11a l_11l l_11c)] (fun rm_13 m_13 =>
  ∃ x_12a x_12l x_12c, rm_13 = (.slice x_12a x_12l x_12c) ∧
  loopE [4, 5, 6, 8, 9, 10] (evCode (cfgOf Tryz.prog pureF pureT C [(7, [4, 5, 6, 8, 9, 10])] 73) (codeAt (bodyOf Tryz.prog 73) [1, 1, 1, 1, 1, 0, 1, 0, 0])) (kAt (cfgOf Tryz.prog pureF pureT C [(7, [4, 5, 6, 8, 9, 10])] 73) (bodyOf Tryz.prog 73) [1, 1, 1, 1, 1, 0, 1, 0] (endK Tryz.prog 73 K)) [(4, (.slice none 0 0)), (5, (.int .i64 0)), (6, (.int .i64 0)), (8, (.slice x_12a x_12l x_12c)), (9, (.slice none 0 0)), (10, (.int .i64 0))] m_13) m_7)) m
theorem e73 (C : CallT) (p0 : Nat) (text1 : ByteArray) (K : Value → Mem → Prop) (m : Mem) : evFn Tryz.prog pureF pureT C [(7, [4, 5, 6, 8, 9, 10])] 73 [(ptr p0 0), (.string text1)] K m = s73 C p0 text1 K m := by kernel_rfl
theorem call73 {W0 : World} {p0 : Nat} {text1 : ByteArray} {K : Value → Mem → Prop} {m : Mem} (h : s73 (callOK Tryz.prog W0) p0 text1 K m) : callOK Tryz.prog W0 73 [(ptr p0 0), (.string text1)] K m :=
  evFn_sound pureOk mixedP (fun w => Tryz.call73 _ w) ((e73 (callOK Tryz.prog W0) p0 text1 K m).symm ▸ h)
def s73_1 (C : CallT) (t4a : Option Addr) (t4l t4c : Nat) (t5 : Int) (t6 : Int) (rows8a : Option Addr) (rows8l rows8c : Nat) (cs9a : Option Addr) (cs9l cs9c : Nat) (i10 : Int) (Kt : Exit → Fr → Mem → Prop) (m : Mem) : Prop :=
  ifB (decide (i10 < ((rows8l : Nat) : Int)))
  (ckP rows8a fun b_14 o_14 =>
  ckI i10 rows8l fun j_15 =>
  ldBool m b_14 (o_14 + (j_15 * 2)) fun y_16 =>
  ifB y_16
  (Kt .ret [(4, (.slice none 0 0)), (5, (.int .i64 16)), (6, (.int .i64 0)), (8, (.slice rows8a rows8l rows8c)), (9, (.slice cs9a cs9l cs9c)), (10, (.int .i64 i10))] m)
  (ckP rows8a fun b_17 o_17 =>
  ckI i10 rows8l fun j_18 =>
  ldSl m b_17 ((o_17 + (j_18 * 2)) + 1) fun l_19a l_19l l_19c =>
  allocB m (Blk.ofList [(.slice l_19a l_19l l_19c)]) fun b_20 m_21 =>
  rdRow m_21 (some ⟨b_20, 0, none⟩) (1 * 1) fun r_24 =>
  appendC m_21 1 24 [(.slice none 0 0)] cs9a cs9l cs9c 1 r_24 fun a_22 c_22 m_23 =>
  Kt .normal [(4, (.slice t4a t4l t4c)), (5, (.int .i64 t5)), (6, (.int .i64 t6)), (8, (.slice rows8a rows8l rows8c)), (9, (.slice a_22 (cs9l + 1) c_22)), (10, (.int .i64 (IntKind.wrap .i64 (i10 + 1))))] m_23))
  (Kt (.exit 0) [(4, (.slice t4a t4l t4c)), (5, (.int .i64 t5)), (6, (.int .i64 t6)), (8, (.slice rows8a rows8l rows8c)), (9, (.slice cs9a cs9l cs9c)), (10, (.int .i64 i10))] m)
theorem e73_1 {C : CallT} {t4a : Option Addr} {t4l t4c : Nat} {t5 : Int} {t6 : Int} {rows8a : Option Addr} {rows8l rows8c : Nat} {cs9a : Option Addr} {cs9l cs9c : Nat} {i10 : Int} {Kt : Exit → Fr → Mem → Prop} {m : Mem} (h : s73_1 C t4a t4l t4c t5 t6 rows8a rows8l rows8c cs9a cs9l cs9c i10 Kt m) : evCode (cfgOf Tryz.prog pureF pureT C [(7, [4, 5, 6, 8, 9, 10])] 73) (codeAt (bodyOf Tryz.prog 73) [1, 1, 1, 1, 1, 0, 1, 0, 0]) (trimK [4, 5, 6, 8, 9, 10] Kt) [(4, (.slice t4a t4l t4c)), (5, (.int .i64 t5)), (6, (.int .i64 t6)), (8, (.slice rows8a rows8l rows8c)), (9, (.slice cs9a cs9l cs9c)), (10, (.int .i64 i10))] m :=
  (show _ = _ by kernel_rfl : evCode (cfgOf Tryz.prog pureF pureT C [(7, [4, 5, 6, 8, 9, 10])] 73) (codeAt (bodyOf Tryz.prog 73) [1, 1, 1, 1, 1, 0, 1, 0, 0]) (trimK [4, 5, 6, 8, 9, 10] Kt) [(4, (.slice t4a t4l t4c)), (5, (.int .i64 t5)), (6, (.int .i64 t6)), (8, (.slice rows8a rows8l rows8c)), (9, (.slice cs9a cs9l cs9c)), (10, (.int .i64 i10))] m = s73_1 C t4a t4l t4c t5 t6 rows8a rows8l rows8c cs9a cs9l cs9c i10 Kt m).symm ▸ h
def s73_1r (C : CallT) (t4a : Option Addr) (t4l t4c : Nat) (t5 : Int) (t6 : Int) (rows8a : Option Addr) (rows8l rows8c : Nat) (cs9a : Option Addr) (cs9l cs9c : Nat) (i10 : Int) (K : Value → Mem → Prop) (m : Mem) : Prop :=
  K (.tuple #[(.slice t4a t4l t4c), (.int .i64 t5), (.int .i64 t6)]) m
theorem e73_1r {C : CallT} {kn : Fr → Mem → Prop} {t4a : Option Addr} {t4l t4c : Nat} {t5 : Int} {t6 : Int} {rows8a : Option Addr} {rows8l rows8c : Nat} {cs9a : Option Addr} {cs9l cs9c : Nat} {i10 : Int} {K : Value → Mem → Prop} {m : Mem} : (andThenE kn (kAt (cfgOf Tryz.prog pureF pureT C [(7, [4, 5, 6, 8, 9, 10])] 73) (bodyOf Tryz.prog 73) [1, 1, 1, 1, 1, 0, 1, 0] (endK Tryz.prog 73 K)) .ret [(4, (.slice t4a t4l t4c)), (5, (.int .i64 t5)), (6, (.int .i64 t6)), (8, (.slice rows8a rows8l rows8c)), (9, (.slice cs9a cs9l cs9c)), (10, (.int .i64 i10))] m) = s73_1r C t4a t4l t4c t5 t6 rows8a rows8l rows8c cs9a cs9l cs9c i10 K m := by kernel_rfl
def s73_1x0 (C : CallT) (t4a : Option Addr) (t4l t4c : Nat) (t5 : Int) (t6 : Int) (rows8a : Option Addr) (rows8l rows8c : Nat) (cs9a : Option Addr) (cs9l cs9c : Nat) (i10 : Int) (K : Value → Mem → Prop) (m : Mem) : Prop :=
  ifB (decide (((cs9l : Nat) : Int) > 40))
  (K (.tuple #[(.slice none 0 0), (.int .i64 17), (.int .i64 0)]) m)
  (K (.tuple #[(.slice cs9a cs9l cs9c), (.int .i64 0), (.int .i64 0)]) m)
theorem e73_1x0 {C : CallT} {kn : Fr → Mem → Prop} {t4a : Option Addr} {t4l t4c : Nat} {t5 : Int} {t6 : Int} {rows8a : Option Addr} {rows8l rows8c : Nat} {cs9a : Option Addr} {cs9l cs9c : Nat} {i10 : Int} {K : Value → Mem → Prop} {m : Mem} : (andThenE kn (kAt (cfgOf Tryz.prog pureF pureT C [(7, [4, 5, 6, 8, 9, 10])] 73) (bodyOf Tryz.prog 73) [1, 1, 1, 1, 1, 0, 1, 0] (endK Tryz.prog 73 K)) (.exit 0) [(4, (.slice t4a t4l t4c)), (5, (.int .i64 t5)), (6, (.int .i64 t6)), (8, (.slice rows8a rows8l rows8c)), (9, (.slice cs9a cs9l cs9c)), (10, (.int .i64 i10))] m) = s73_1x0 C t4a t4l t4c t5 t6 rows8a rows8l rows8c cs9a cs9l cs9c i10 K m := by kernel_rfl
def F73_1 (t4a : Option Addr) (t4l t4c : Nat) (t5 : Int) (t6 : Int) (rows8a : Option Addr) (rows8l rows8c : Nat) (cs9a : Option Addr) (cs9l cs9c : Nat) (i10 : Int) : Fr := [(4, (.slice t4a t4l t4c)), (5, (.int .i64 t5)), (6, (.int .i64 t6)), (8, (.slice rows8a rows8l rows8c)), (9, (.slice cs9a cs9l cs9c)), (10, (.int .i64 i10))]
theorem loop73_1 {C : CallT} {γ : Type} {rows8a : Option Addr} {rows8l rows8c : Nat} {K : Value → Mem → Prop} {m : Mem} (J : γ → Option Addr → Nat → Nat → Int → Int → Option Addr → Nat → Nat → Int → Mem → Prop) (μ : γ → Option Addr → Nat → Nat → Int → Int → Option Addr → Nat → Nat → Int → Nat) (g : γ) {t4a : Option Addr} {t4l t4c : Nat} {t5 : Int} {t6 : Int} {cs9a : Option Addr} {cs9l cs9c : Nat} {i10 : Int} (hJ : J g t4a t4l t4c t5 t6 cs9a cs9l cs9c i10 m)
    (hs : ∀ g t4a t4l t4c t5 t6 cs9a cs9l cs9c i10 m, J g t4a t4l t4c t5 t6 cs9a cs9l cs9c i10 m → s73_1 C t4a t4l t4c t5 t6 rows8a rows8l rows8c cs9a cs9l cs9c i10 (andThenE (fun fr m' => ∃ g' t4a' t4l' t4c' t5' t6' cs9a' cs9l' cs9c' i10', fr = F73_1 t4a' t4l' t4c' t5' t6' rows8a rows8l rows8c cs9a' cs9l' cs9c' i10' ∧ J g' t4a' t4l' t4c' t5' t6' cs9a' cs9l' cs9c' i10' m' ∧ μ g' t4a' t4l' t4c' t5' t6' cs9a' cs9l' cs9c' i10' < μ g t4a t4l t4c t5 t6 cs9a cs9l cs9c i10) (kAt (cfgOf Tryz.prog pureF pureT C [(7, [4, 5, 6, 8, 9, 10])] 73) (bodyOf Tryz.prog 73) [1, 1, 1, 1, 1, 0, 1, 0] (endK Tryz.prog 73 K))) m) :
    loopE [4, 5, 6, 8, 9, 10] (evCode (cfgOf Tryz.prog pureF pureT C [(7, [4, 5, 6, 8, 9, 10])] 73) (codeAt (bodyOf Tryz.prog 73) [1, 1, 1, 1, 1, 0, 1, 0, 0])) (kAt (cfgOf Tryz.prog pureF pureT C [(7, [4, 5, 6, 8, 9, 10])] 73) (bodyOf Tryz.prog 73) [1, 1, 1, 1, 1, 0, 1, 0] (endK Tryz.prog 73 K)) [(4, (.slice t4a t4l t4c)), (5, (.int .i64 t5)), (6, (.int .i64 t6)), (8, (.slice rows8a rows8l rows8c)), (9, (.slice cs9a cs9l cs9c)), (10, (.int .i64 i10))] m := by
  refine loop_rule (σ := γ × Option Addr × Nat × Nat × Int × Int × Option Addr × Nat × Nat × Int) (fun s => F73_1 s.2.1 s.2.2.1 s.2.2.2.1 s.2.2.2.2.1 s.2.2.2.2.2.1 rows8a rows8l rows8c s.2.2.2.2.2.2.1 s.2.2.2.2.2.2.2.1 s.2.2.2.2.2.2.2.2.1 s.2.2.2.2.2.2.2.2.2) (fun s m => J s.1 s.2.1 s.2.2.1 s.2.2.2.1 s.2.2.2.2.1 s.2.2.2.2.2.1 s.2.2.2.2.2.2.1 s.2.2.2.2.2.2.2.1 s.2.2.2.2.2.2.2.2.1 s.2.2.2.2.2.2.2.2.2 m) (fun s => μ s.1 s.2.1 s.2.2.1 s.2.2.2.1 s.2.2.2.2.1 s.2.2.2.2.2.1 s.2.2.2.2.2.2.1 s.2.2.2.2.2.2.2.1 s.2.2.2.2.2.2.2.2.1 s.2.2.2.2.2.2.2.2.2) (g, t4a, t4l, t4c, t5, t6, cs9a, cs9l, cs9c, i10) rfl hJ ?_
  intro s m hJ
  have h := hs s.1 s.2.1 s.2.2.1 s.2.2.2.1 s.2.2.2.2.1 s.2.2.2.2.2.1 s.2.2.2.2.2.2.1 s.2.2.2.2.2.2.2.1 s.2.2.2.2.2.2.2.2.1 s.2.2.2.2.2.2.2.2.2 m hJ
  refine e73_1 ?_
  refine Eq.mp (congrArg (fun B => s73_1 C s.2.1 s.2.2.1 s.2.2.2.1 s.2.2.2.2.1 s.2.2.2.2.2.1 rows8a rows8l rows8c s.2.2.2.2.2.2.1 s.2.2.2.2.2.2.2.1 s.2.2.2.2.2.2.2.2.1 s.2.2.2.2.2.2.2.2.2 (andThenE B (kAt (cfgOf Tryz.prog pureF pureT C [(7, [4, 5, 6, 8, 9, 10])] 73) (bodyOf Tryz.prog 73) [1, 1, 1, 1, 1, 0, 1, 0] (endK Tryz.prog 73 K))) m) ?_) h
  funext fr m'
  apply propext
  constructor
  · rintro ⟨g', t4a', t4l', t4c', t5', t6', cs9a', cs9l', cs9c', i10', h1, h2, h3⟩
    exact ⟨(g', t4a', t4l', t4c', t5', t6', cs9a', cs9l', cs9c', i10'), h1, h2, h3⟩
  · rintro ⟨⟨g', t4a', t4l', t4c', t5', t6', cs9a', cs9l', cs9c', i10'⟩, h1, h2, h3⟩
    exact ⟨g', t4a', t4l', t4c', t5', t6', cs9a', cs9l', cs9c', i10', h1, h2, h3⟩

def s74 (C : CallT) (a0_0 : Int) (a0_1 : Int) (a0_2 : Bool) (a0_3a : Option Addr) (a0_3l a0_3c : Nat) (a0_4 : ByteArray) (a0_5 : Int) (a0_6 : Int) (K : Value → Mem → Prop) (m : Mem) : Prop :=
  allocB m (Blk.ofList [(.int .i64 a0_0), (.int .i64 a0_1), (.bool a0_2), (.slice a0_3a a0_3l a0_3c), (.string a0_4), (.int .i64 a0_5), (.int .i64 a0_6)]) fun b_1 m_2 =>
  ldInt .i64 m_2 b_1 5 fun x_3 =>
  ldBool m_2 b_1 2 fun y_4 =>
  ifB (!y_4)
  (ifB (decide ((IntKind.wrap .i64 (x_3 - 1)) < 0))
  (K (.bool false) m_2)
  (ldInt .i64 m_2 b_1 5 fun x_5 =>
  ifB (decide (x_5 > 4106))
  (K (.bool false) m_2)
  (C 125 [(.int .i64 (IntKind.wrap .i64 (x_3 - 1)))] (fun rm_7 m_7 =>
  ∃ x_6, rm_7 = (.int .i64 x_6) ∧
  ldInt .i64 m_7 b_1 6 fun x_8 =>
  K (.bool (x_8 == x_6)) m_7) m_2)))
  (ifB (decide (x_3 < 0))
  (K (.bool false) m_2)
  (ldInt .i64 m_2 b_1 5 fun x_9 =>
  ifB (decide (x_9 > 4106))
  (K (.bool false) m_2)
  (C 125 [(.int .i64 x_3)] (fun rm_11 m_11 =>
  ∃ x_10, rm_11 = (.int .i64 x_10) ∧
  ldInt .i64 m_11 b_1 6 fun x_12 =>
  K (.bool (x_12 == x_10)) m_11) m_2)))
theorem e74 (C : CallT) (a0_0 : Int) (a0_1 : Int) (a0_2 : Bool) (a0_3a : Option Addr) (a0_3l a0_3c : Nat) (a0_4 : ByteArray) (a0_5 : Int) (a0_6 : Int) (K : Value → Mem → Prop) (m : Mem) : evFn Tryz.prog pureF pureT C [] 74 [(.agg #[(.int .i64 a0_0), (.int .i64 a0_1), (.bool a0_2), (.slice a0_3a a0_3l a0_3c), (.string a0_4), (.int .i64 a0_5), (.int .i64 a0_6)])] K m = s74 C a0_0 a0_1 a0_2 a0_3a a0_3l a0_3c a0_4 a0_5 a0_6 K m := by kernel_rfl
theorem call74 {W0 : World} {a0_0 : Int} {a0_1 : Int} {a0_2 : Bool} {a0_3a : Option Addr} {a0_3l a0_3c : Nat} {a0_4 : ByteArray} {a0_5 : Int} {a0_6 : Int} {K : Value → Mem → Prop} {m : Mem} (h : s74 (callOK Tryz.prog W0) a0_0 a0_1 a0_2 a0_3a a0_3l a0_3c a0_4 a0_5 a0_6 K m) : callOK Tryz.prog W0 74 [(.agg #[(.int .i64 a0_0), (.int .i64 a0_1), (.bool a0_2), (.slice a0_3a a0_3l a0_3c), (.string a0_4), (.int .i64 a0_5), (.int .i64 a0_6)])] K m :=
  evFn_sound pureOk mixedP (fun w => Tryz.call74 _ w) ((e74 (callOK Tryz.prog W0) a0_0 a0_1 a0_2 a0_3a a0_3l a0_3c a0_4 a0_5 a0_6 K m).symm ▸ h)

def s75 (C : CallT) (x0 : Nat) (problem1a : Option Addr) (problem1l problem1c : Nat) (a2_0 : Int) (a2_1 : Int) (a2_2 : Bool) (a2_3a : Option Addr) (a2_3l a2_3c : Nat) (a2_4 : ByteArray) (a2_5 : Int) (a2_6 : Int) (K : Value → Mem → Prop) (m : Mem) : Prop :=
  allocB m (Blk.ofList [(.int .i64 a2_0), (.int .i64 a2_1), (.bool a2_2), (.slice a2_3a a2_3l a2_3c), (.string a2_4), (.int .i64 a2_5), (.int .i64 a2_6)]) fun b_1 m_2 =>
  loopE [0, 1, 5, 6, 7] (evCode (cfgOf Tryz.prog pureF pureT C [(2, [0, 1, 5, 6, 7]), (10, [0, 5, 6, 10]), (16, [0, 5, 6, 13])] 75) (codeAt (bodyOf Tryz.prog 75) [1, 0, 1, 0, 0])) (kAt (cfgOf Tryz.prog pureF pureT C [(2, [0, 1, 5, 6, 7]), (10, [0, 5, 6, 10]), (16, [0, 5, 6, 13])] 75) (bodyOf Tryz.prog 75) [1, 0, 1, 0] (endK Tryz.prog 75 K)) [(0, (ptr x0 0)), (1, (.slice problem1a problem1l problem1c)), (5, (ptr b_1 0)), (6, (.bool false)), (7, (.int .i64 0))] m_2
theorem e75 (C : CallT) (x0 : Nat) (problem1a : Option Addr) (problem1l problem1c : Nat) (a2_0 : Int) (a2_1 : Int) (a2_2 : Bool) (a2_3a : Option Addr) (a2_3l a2_3c : Nat) (a2_4 : ByteArray) (a2_5 : Int) (a2_6 : Int) (K : Value → Mem → Prop) (m : Mem) : evFn Tryz.prog pureF pureT C [(2, [0, 1, 5, 6, 7]), (10, [0, 5, 6, 10]), (16, [0, 5, 6, 13])] 75 [(ptr x0 0), (.slice problem1a problem1l problem1c), (.agg #[(.int .i64 a2_0), (.int .i64 a2_1), (.bool a2_2), (.slice a2_3a a2_3l a2_3c), (.string a2_4), (.int .i64 a2_5), (.int .i64 a2_6)])] K m = s75 C x0 problem1a problem1l problem1c a2_0 a2_1 a2_2 a2_3a a2_3l a2_3c a2_4 a2_5 a2_6 K m := by kernel_rfl
theorem call75 {W0 : World} {x0 : Nat} {problem1a : Option Addr} {problem1l problem1c : Nat} {a2_0 : Int} {a2_1 : Int} {a2_2 : Bool} {a2_3a : Option Addr} {a2_3l a2_3c : Nat} {a2_4 : ByteArray} {a2_5 : Int} {a2_6 : Int} {K : Value → Mem → Prop} {m : Mem} (h : s75 (callOK Tryz.prog W0) x0 problem1a problem1l problem1c a2_0 a2_1 a2_2 a2_3a a2_3l a2_3c a2_4 a2_5 a2_6 K m) : callOK Tryz.prog W0 75 [(ptr x0 0), (.slice problem1a problem1l problem1c), (.agg #[(.int .i64 a2_0), (.int .i64 a2_1), (.bool a2_2), (.slice a2_3a a2_3l a2_3c), (.string a2_4), (.int .i64 a2_5), (.int .i64 a2_6)])] K m :=
  evFn_sound pureOk mixedP (fun w => Tryz.call75 _ w) ((e75 (callOK Tryz.prog W0) x0 problem1a problem1l problem1c a2_0 a2_1 a2_2 a2_3a a2_3l a2_3c a2_4 a2_5 a2_6 K m).symm ▸ h)
def s75_1 (C : CallT) (x0 : Nat) (problem1a : Option Addr) (problem1l problem1c : Nat) (a5 : Nat) (t6 : Bool) (i7 : Int) (Kt : Exit → Fr → Mem → Prop) (m : Mem) : Prop :=
  ifB (decide (i7 < ((problem1l : Nat) : Int)))
  (ldPtr m x0 2 fun p_3 =>
  C 46 [(.pointer p_3), (.int .i64 i7)] (fun rm_6 m_6 =>
  ∃ x_4a x_4l x_4c x_5, rm_6 = (.tuple #[(.slice x_4a x_4l x_4c), (.int .i64 x_5)]) ∧
  ifB (x_5 != 0)
  (Kt .ret [(0, (ptr x0 0)), (1, (.slice problem1a problem1l problem1c)), (5, (ptr a5 0)), (6, (.bool false)), (7, (.int .i64 i7))] m_6)
  (ckP problem1a fun b_7 o_7 =>
  ckI i7 problem1l fun j_8 =>
  ldSl m_6 b_7 (o_7 + j_8) fun l_9a l_9l l_9c =>
  C 18 [(.slice x_4a x_4l x_4c), (.slice l_9a l_9l l_9c)] (fun rm_11 m_11 =>
  ∃ x_10, rm_11 = (.bool x_10) ∧
  ifB (!x_10)
  (Kt .ret [(0, (ptr x0 0)), (1, (.slice problem1a problem1l problem1c)), (5, (ptr a5 0)), (6, (.bool false)), (7, (.int .i64 i7))] m_11)
  (Kt .normal [(0, (ptr x0 0)), (1, (.slice problem1a problem1l problem1c)), (5, (ptr a5 0)), (6, (.bool t6)), (7, (.int .i64 (IntKind.wrap .i64 (i7 + 1))))] m_11)) m_6)) m)
  (Kt (.exit 0) [(0, (ptr x0 0)), (1, (.slice problem1a problem1l problem1c)), (5, (ptr a5 0)), (6, (.bool t6)), (7, (.int .i64 i7))] m)
theorem e75_1 {C : CallT} {x0 : Nat} {problem1a : Option Addr} {problem1l problem1c : Nat} {a5 : Nat} {t6 : Bool} {i7 : Int} {Kt : Exit → Fr → Mem → Prop} {m : Mem} (h : s75_1 C x0 problem1a problem1l problem1c a5 t6 i7 Kt m) : evCode (cfgOf Tryz.prog pureF pureT C [(2, [0, 1, 5, 6, 7]), (10, [0, 5, 6, 10]), (16, [0, 5, 6, 13])] 75) (codeAt (bodyOf Tryz.prog 75) [1, 0, 1, 0, 0]) (trimK [0, 1, 5, 6, 7] Kt) [(0, (ptr x0 0)), (1, (.slice problem1a problem1l problem1c)), (5, (ptr a5 0)), (6, (.bool t6)), (7, (.int .i64 i7))] m :=
  (show _ = _ by kernel_rfl : evCode (cfgOf Tryz.prog pureF pureT C [(2, [0, 1, 5, 6, 7]), (10, [0, 5, 6, 10]), (16, [0, 5, 6, 13])] 75) (codeAt (bodyOf Tryz.prog 75) [1, 0, 1, 0, 0]) (trimK [0, 1, 5, 6, 7] Kt) [(0, (ptr x0 0)), (1, (.slice problem1a problem1l problem1c)), (5, (ptr a5 0)), (6, (.bool t6)), (7, (.int .i64 i7))] m = s75_1 C x0 problem1a problem1l problem1c a5 t6 i7 Kt m).symm ▸ h
def s75_1r (C : CallT) (x0 : Nat) (problem1a : Option Addr) (problem1l problem1c : Nat) (a5 : Nat) (t6 : Bool) (i7 : Int) (K : Value → Mem → Prop) (m : Mem) : Prop :=
  K (.bool t6) m
theorem e75_1r {C : CallT} {kn : Fr → Mem → Prop} {x0 : Nat} {problem1a : Option Addr} {problem1l problem1c : Nat} {a5 : Nat} {t6 : Bool} {i7 : Int} {K : Value → Mem → Prop} {m : Mem} : (andThenE kn (kAt (cfgOf Tryz.prog pureF pureT C [(2, [0, 1, 5, 6, 7]), (10, [0, 5, 6, 10]), (16, [0, 5, 6, 13])] 75) (bodyOf Tryz.prog 75) [1, 0, 1, 0] (endK Tryz.prog 75 K)) .ret [(0, (ptr x0 0)), (1, (.slice problem1a problem1l problem1c)), (5, (ptr a5 0)), (6, (.bool t6)), (7, (.int .i64 i7))] m) = s75_1r C x0 problem1a problem1l problem1c a5 t6 i7 K m := by kernel_rfl
def s75_1x0 (C : CallT) (x0 : Nat) (problem1a : Option Addr) (problem1l problem1c : Nat) (a5 : Nat) (t6 : Bool) (i7 : Int) (K : Value → Mem → Prop) (m : Mem) : Prop :=
  loopE [0, 5, 6, 10] (evCode (cfgOf Tryz.prog pureF pureT C [(2, [0, 1, 5, 6, 7]), (10, [0, 5, 6, 10]), (16, [0, 5, 6, 13])] 75) (codeAt (bodyOf Tryz.prog 75) [1, 1, 0, 1, 0, 0])) (kAt (cfgOf Tryz.prog pureF pureT C [(2, [0, 1, 5, 6, 7]), (10, [0, 5, 6, 10]), (16, [0, 5, 6, 13])] 75) (bodyOf Tryz.prog 75) [1, 1, 0, 1, 0] (endK Tryz.prog 75 K)) [(0, (ptr x0 0)), (5, (ptr a5 0)), (6, (.bool t6)), (10, (.int .i64 ((problem1l : Nat) : Int)))] m
theorem e75_1x0 {C : CallT} {kn : Fr → Mem → Prop} {x0 : Nat} {problem1a : Option Addr} {problem1l problem1c : Nat} {a5 : Nat} {t6 : Bool} {i7 : Int} {K : Value → Mem → Prop} {m : Mem} : (andThenE kn (kAt (cfgOf Tryz.prog pureF pureT C [(2, [0, 1, 5, 6, 7]), (10, [0, 5, 6, 10]), (16, [0, 5, 6, 13])] 75) (bodyOf Tryz.prog 75) [1, 0, 1, 0] (endK Tryz.prog 75 K)) (.exit 0) [(0, (ptr x0 0)), (1, (.slice problem1a problem1l problem1c)), (5, (ptr a5 0)), (6, (.bool t6)), (7, (.int .i64 i7))] m) = s75_1x0 C x0 problem1a problem1l problem1c a5 t6 i7 K m := by kernel_rfl
def s75_2 (C : CallT) (x0 : Nat) (a5 : Nat) (t6 : Bool) (id10 : Int) (Kt : Exit → Fr → Mem → Prop) (m : Mem) : Prop :=
  ifB (decide (id10 < 40))
  (ldPtr m x0 2 fun p_12 =>
  C 46 [(.pointer p_12), (.int .i64 id10)] (fun rm_15 m_15 =>
  ∃ x_13a x_13l x_13c x_14, rm_15 = (.tuple #[(.slice x_13a x_13l x_13c), (.int .i64 x_14)]) ∧
  ifB (x_14 != 13)
  (Kt .ret [(0, (ptr x0 0)), (5, (ptr a5 0)), (6, (.bool false)), (10, (.int .i64 id10))] m_15)
  (Kt .normal [(0, (ptr x0 0)), (5, (ptr a5 0)), (6, (.bool t6)), (10, (.int .i64 (IntKind.wrap .i64 (id10 + 1))))] m_15)) m)
  (Kt (.exit 2) [(0, (ptr x0 0)), (5, (ptr a5 0)), (6, (.bool t6)), (10, (.int .i64 id10))] m)
theorem e75_2 {C : CallT} {x0 : Nat} {a5 : Nat} {t6 : Bool} {id10 : Int} {Kt : Exit → Fr → Mem → Prop} {m : Mem} (h : s75_2 C x0 a5 t6 id10 Kt m) : evCode (cfgOf Tryz.prog pureF pureT C [(2, [0, 1, 5, 6, 7]), (10, [0, 5, 6, 10]), (16, [0, 5, 6, 13])] 75) (codeAt (bodyOf Tryz.prog 75) [1, 1, 0, 1, 0, 0]) (trimK [0, 5, 6, 10] Kt) [(0, (ptr x0 0)), (5, (ptr a5 0)), (6, (.bool t6)), (10, (.int .i64 id10))] m :=
  (show _ = _ by kernel_rfl : evCode (cfgOf Tryz.prog pureF pureT C [(2, [0, 1, 5, 6, 7]), (10, [0, 5, 6, 10]), (16, [0, 5, 6, 13])] 75) (codeAt (bodyOf Tryz.prog 75) [1, 1, 0, 1, 0, 0]) (trimK [0, 5, 6, 10] Kt) [(0, (ptr x0 0)), (5, (ptr a5 0)), (6, (.bool t6)), (10, (.int .i64 id10))] m = s75_2 C x0 a5 t6 id10 Kt m).symm ▸ h
def s75_2r (C : CallT) (x0 : Nat) (a5 : Nat) (t6 : Bool) (id10 : Int) (K : Value → Mem → Prop) (m : Mem) : Prop :=
  K (.bool t6) m
theorem e75_2r {C : CallT} {kn : Fr → Mem → Prop} {x0 : Nat} {a5 : Nat} {t6 : Bool} {id10 : Int} {K : Value → Mem → Prop} {m : Mem} : (andThenE kn (kAt (cfgOf Tryz.prog pureF pureT C [(2, [0, 1, 5, 6, 7]), (10, [0, 5, 6, 10]), (16, [0, 5, 6, 13])] 75) (bodyOf Tryz.prog 75) [1, 1, 0, 1, 0] (endK Tryz.prog 75 K)) .ret [(0, (ptr x0 0)), (5, (ptr a5 0)), (6, (.bool t6)), (10, (.int .i64 id10))] m) = s75_2r C x0 a5 t6 id10 K m := by kernel_rfl
def s75_2x2 (C : CallT) (x0 : Nat) (a5 : Nat) (t6 : Bool) (id10 : Int) (K : Value → Mem → Prop) (m : Mem) : Prop :=
  loopE [0, 5, 6, 13] (evCode (cfgOf Tryz.prog pureF pureT C [(2, [0, 1, 5, 6, 7]), (10, [0, 5, 6, 10]), (16, [0, 5, 6, 13])] 75) (codeAt (bodyOf Tryz.prog 75) [1, 1, 1, 0, 1, 0, 0])) (kAt (cfgOf Tryz.prog pureF pureT C [(2, [0, 1, 5, 6, 7]), (10, [0, 5, 6, 10]), (16, [0, 5, 6, 13])] 75) (bodyOf Tryz.prog 75) [1, 1, 1, 0, 1, 0] (endK Tryz.prog 75 K)) [(0, (ptr x0 0)), (5, (ptr a5 0)), (6, (.bool t6)), (13, (.int .i64 0))] m
theorem e75_2x2 {C : CallT} {kn : Fr → Mem → Prop} {x0 : Nat} {a5 : Nat} {t6 : Bool} {id10 : Int} {K : Value → Mem → Prop} {m : Mem} : (andThenE kn (kAt (cfgOf Tryz.prog pureF pureT C [(2, [0, 1, 5, 6, 7]), (10, [0, 5, 6, 10]), (16, [0, 5, 6, 13])] 75) (bodyOf Tryz.prog 75) [1, 1, 0, 1, 0] (endK Tryz.prog 75 K)) (.exit 2) [(0, (ptr x0 0)), (5, (ptr a5 0)), (6, (.bool t6)), (10, (.int .i64 id10))] m) = s75_2x2 C x0 a5 t6 id10 K m := by kernel_rfl
def s75_3 (C : CallT) (x0 : Nat) (a5 : Nat) (t6 : Bool) (i13 : Int) (Kt : Exit → Fr → Mem → Prop) (m : Mem) : Prop :=
  ldSl m a5 3 fun l_16a l_16l l_16c =>
  ifB (decide (i13 < ((l_16l : Nat) : Int)))
  (ldPtr m x0 1 fun p_17 =>
  ldSl m a5 3 fun l_18a l_18l l_18c =>
  ckP l_18a fun b_19 o_19 =>
  ckI i13 l_18l fun j_20 =>
  ldInt .i64 m b_19 (o_19 + j_20) fun x_21 =>
  C 65 [(.pointer p_17), (.int .i64 x_21)] (fun rm_23 m_23 =>
  ∃ x_22, rm_23 = (.int .i64 x_22) ∧
  ifB (x_22 != 1)
  (Kt .ret [(0, (ptr x0 0)), (5, (ptr a5 0)), (6, (.bool false)), (13, (.int .i64 i13))] m_23)
  (Kt .normal [(0, (ptr x0 0)), (5, (ptr a5 0)), (6, (.bool t6)), (13, (.int .i64 (IntKind.wrap .i64 (i13 + 1))))] m_23)) m)
  (Kt (.exit 4) [(0, (ptr x0 0)), (5, (ptr a5 0)), (6, (.bool t6)), (13, (.int .i64 i13))] m)
theorem e75_3 {C : CallT} {x0 : Nat} {a5 : Nat} {t6 : Bool} {i13 : Int} {Kt : Exit → Fr → Mem → Prop} {m : Mem} (h : s75_3 C x0 a5 t6 i13 Kt m) : evCode (cfgOf Tryz.prog pureF pureT C [(2, [0, 1, 5, 6, 7]), (10, [0, 5, 6, 10]), (16, [0, 5, 6, 13])] 75) (codeAt (bodyOf Tryz.prog 75) [1, 1, 1, 0, 1, 0, 0]) (trimK [0, 5, 6, 13] Kt) [(0, (ptr x0 0)), (5, (ptr a5 0)), (6, (.bool t6)), (13, (.int .i64 i13))] m :=
  (show _ = _ by kernel_rfl : evCode (cfgOf Tryz.prog pureF pureT C [(2, [0, 1, 5, 6, 7]), (10, [0, 5, 6, 10]), (16, [0, 5, 6, 13])] 75) (codeAt (bodyOf Tryz.prog 75) [1, 1, 1, 0, 1, 0, 0]) (trimK [0, 5, 6, 13] Kt) [(0, (ptr x0 0)), (5, (ptr a5 0)), (6, (.bool t6)), (13, (.int .i64 i13))] m = s75_3 C x0 a5 t6 i13 Kt m).symm ▸ h
def s75_3r (C : CallT) (x0 : Nat) (a5 : Nat) (t6 : Bool) (i13 : Int) (K : Value → Mem → Prop) (m : Mem) : Prop :=
  K (.bool t6) m
theorem e75_3r {C : CallT} {kn : Fr → Mem → Prop} {x0 : Nat} {a5 : Nat} {t6 : Bool} {i13 : Int} {K : Value → Mem → Prop} {m : Mem} : (andThenE kn (kAt (cfgOf Tryz.prog pureF pureT C [(2, [0, 1, 5, 6, 7]), (10, [0, 5, 6, 10]), (16, [0, 5, 6, 13])] 75) (bodyOf Tryz.prog 75) [1, 1, 1, 0, 1, 0] (endK Tryz.prog 75 K)) .ret [(0, (ptr x0 0)), (5, (ptr a5 0)), (6, (.bool t6)), (13, (.int .i64 i13))] m) = s75_3r C x0 a5 t6 i13 K m := by kernel_rfl
def s75_3x4 (C : CallT) (x0 : Nat) (a5 : Nat) (t6 : Bool) (i13 : Int) (K : Value → Mem → Prop) (m : Mem) : Prop :=
  K (.bool true) m
theorem e75_3x4 {C : CallT} {kn : Fr → Mem → Prop} {x0 : Nat} {a5 : Nat} {t6 : Bool} {i13 : Int} {K : Value → Mem → Prop} {m : Mem} : (andThenE kn (kAt (cfgOf Tryz.prog pureF pureT C [(2, [0, 1, 5, 6, 7]), (10, [0, 5, 6, 10]), (16, [0, 5, 6, 13])] 75) (bodyOf Tryz.prog 75) [1, 1, 1, 0, 1, 0] (endK Tryz.prog 75 K)) (.exit 4) [(0, (ptr x0 0)), (5, (ptr a5 0)), (6, (.bool t6)), (13, (.int .i64 i13))] m) = s75_3x4 C x0 a5 t6 i13 K m := by kernel_rfl
def F75_1 (x0 : Nat) (problem1a : Option Addr) (problem1l problem1c : Nat) (a5 : Nat) (t6 : Bool) (i7 : Int) : Fr := [(0, (ptr x0 0)), (1, (.slice problem1a problem1l problem1c)), (5, (ptr a5 0)), (6, (.bool t6)), (7, (.int .i64 i7))]
theorem loop75_1 {C : CallT} {γ : Type} {x0 : Nat} {problem1a : Option Addr} {problem1l problem1c : Nat} {a5 : Nat} {K : Value → Mem → Prop} {m : Mem} (J : γ → Bool → Int → Mem → Prop) (μ : γ → Bool → Int → Nat) (g : γ) {t6 : Bool} {i7 : Int} (hJ : J g t6 i7 m)
    (hs : ∀ g t6 i7 m, J g t6 i7 m → s75_1 C x0 problem1a problem1l problem1c a5 t6 i7 (andThenE (fun fr m' => ∃ g' t6' i7', fr = F75_1 x0 problem1a problem1l problem1c a5 t6' i7' ∧ J g' t6' i7' m' ∧ μ g' t6' i7' < μ g t6 i7) (kAt (cfgOf Tryz.prog pureF pureT C [(2, [0, 1, 5, 6, 7]), (10, [0, 5, 6, 10]), (16, [0, 5, 6, 13])] 75) (bodyOf Tryz.prog 75) [1, 0, 1, 0] (endK Tryz.prog 75 K))) m) :
    loopE [0, 1, 5, 6, 7] (evCode (cfgOf Tryz.prog pureF pureT C [(2, [0, 1, 5, 6, 7]), (10, [0, 5, 6, 10]), (16, [0, 5, 6, 13])] 75) (codeAt (bodyOf Tryz.prog 75) [1, 0, 1, 0, 0])) (kAt (cfgOf Tryz.prog pureF pureT C [(2, [0, 1, 5, 6, 7]), (10, [0, 5, 6, 10]), (16, [0, 5, 6, 13])] 75) (bodyOf Tryz.prog 75) [1, 0, 1, 0] (endK Tryz.prog 75 K)) [(0, (ptr x0 0)), (1, (.slice problem1a problem1l problem1c)), (5, (ptr a5 0)), (6, (.bool t6)), (7, (.int .i64 i7))] m := by
  refine loop_rule (σ := γ × Bool × Int) (fun s => F75_1 x0 problem1a problem1l problem1c a5 s.2.1 s.2.2) (fun s m => J s.1 s.2.1 s.2.2 m) (fun s => μ s.1 s.2.1 s.2.2) (g, t6, i7) rfl hJ ?_
  intro s m hJ
  have h := hs s.1 s.2.1 s.2.2 m hJ
  refine e75_1 ?_
  refine Eq.mp (congrArg (fun B => s75_1 C x0 problem1a problem1l problem1c a5 s.2.1 s.2.2 (andThenE B (kAt (cfgOf Tryz.prog pureF pureT C [(2, [0, 1, 5, 6, 7]), (10, [0, 5, 6, 10]), (16, [0, 5, 6, 13])] 75) (bodyOf Tryz.prog 75) [1, 0, 1, 0] (endK Tryz.prog 75 K))) m) ?_) h
  funext fr m'
  apply propext
  constructor
  · rintro ⟨g', t6', i7', h1, h2, h3⟩
    exact ⟨(g', t6', i7'), h1, h2, h3⟩
  · rintro ⟨⟨g', t6', i7'⟩, h1, h2, h3⟩
    exact ⟨g', t6', i7', h1, h2, h3⟩
def F75_2 (x0 : Nat) (a5 : Nat) (t6 : Bool) (id10 : Int) : Fr := [(0, (ptr x0 0)), (5, (ptr a5 0)), (6, (.bool t6)), (10, (.int .i64 id10))]
theorem loop75_2 {C : CallT} {γ : Type} {x0 : Nat} {a5 : Nat} {K : Value → Mem → Prop} {m : Mem} (J : γ → Bool → Int → Mem → Prop) (μ : γ → Bool → Int → Nat) (g : γ) {t6 : Bool} {id10 : Int} (hJ : J g t6 id10 m)
    (hs : ∀ g t6 id10 m, J g t6 id10 m → s75_2 C x0 a5 t6 id10 (andThenE (fun fr m' => ∃ g' t6' id10', fr = F75_2 x0 a5 t6' id10' ∧ J g' t6' id10' m' ∧ μ g' t6' id10' < μ g t6 id10) (kAt (cfgOf Tryz.prog pureF pureT C [(2, [0, 1, 5, 6, 7]), (10, [0, 5, 6, 10]), (16, [0, 5, 6, 13])] 75) (bodyOf Tryz.prog 75) [1, 1, 0, 1, 0] (endK Tryz.prog 75 K))) m) :
    loopE [0, 5, 6, 10] (evCode (cfgOf Tryz.prog pureF pureT C [(2, [0, 1, 5, 6, 7]), (10, [0, 5, 6, 10]), (16, [0, 5, 6, 13])] 75) (codeAt (bodyOf Tryz.prog 75) [1, 1, 0, 1, 0, 0])) (kAt (cfgOf Tryz.prog pureF pureT C [(2, [0, 1, 5, 6, 7]), (10, [0, 5, 6, 10]), (16, [0, 5, 6, 13])] 75) (bodyOf Tryz.prog 75) [1, 1, 0, 1, 0] (endK Tryz.prog 75 K)) [(0, (ptr x0 0)), (5, (ptr a5 0)), (6, (.bool t6)), (10, (.int .i64 id10))] m := by
  refine loop_rule (σ := γ × Bool × Int) (fun s => F75_2 x0 a5 s.2.1 s.2.2) (fun s m => J s.1 s.2.1 s.2.2 m) (fun s => μ s.1 s.2.1 s.2.2) (g, t6, id10) rfl hJ ?_
  intro s m hJ
  have h := hs s.1 s.2.1 s.2.2 m hJ
  refine e75_2 ?_
  refine Eq.mp (congrArg (fun B => s75_2 C x0 a5 s.2.1 s.2.2 (andThenE B (kAt (cfgOf Tryz.prog pureF pureT C [(2, [0, 1, 5, 6, 7]), (10, [0, 5, 6, 10]), (16, [0, 5, 6, 13])] 75) (bodyOf Tryz.prog 75) [1, 1, 0, 1, 0] (endK Tryz.prog 75 K))) m) ?_) h
  funext fr m'
  apply propext
  constructor
  · rintro ⟨g', t6', id10', h1, h2, h3⟩
    exact ⟨(g', t6', id10'), h1, h2, h3⟩
  · rintro ⟨⟨g', t6', id10'⟩, h1, h2, h3⟩
    exact ⟨g', t6', id10', h1, h2, h3⟩
def F75_3 (x0 : Nat) (a5 : Nat) (t6 : Bool) (i13 : Int) : Fr := [(0, (ptr x0 0)), (5, (ptr a5 0)), (6, (.bool t6)), (13, (.int .i64 i13))]
theorem loop75_3 {C : CallT} {γ : Type} {x0 : Nat} {a5 : Nat} {K : Value → Mem → Prop} {m : Mem} (J : γ → Bool → Int → Mem → Prop) (μ : γ → Bool → Int → Nat) (g : γ) {t6 : Bool} {i13 : Int} (hJ : J g t6 i13 m)
    (hs : ∀ g t6 i13 m, J g t6 i13 m → s75_3 C x0 a5 t6 i13 (andThenE (fun fr m' => ∃ g' t6' i13', fr = F75_3 x0 a5 t6' i13' ∧ J g' t6' i13' m' ∧ μ g' t6' i13' < μ g t6 i13) (kAt (cfgOf Tryz.prog pureF pureT C [(2, [0, 1, 5, 6, 7]), (10, [0, 5, 6, 10]), (16, [0, 5, 6, 13])] 75) (bodyOf Tryz.prog 75) [1, 1, 1, 0, 1, 0] (endK Tryz.prog 75 K))) m) :
    loopE [0, 5, 6, 13] (evCode (cfgOf Tryz.prog pureF pureT C [(2, [0, 1, 5, 6, 7]), (10, [0, 5, 6, 10]), (16, [0, 5, 6, 13])] 75) (codeAt (bodyOf Tryz.prog 75) [1, 1, 1, 0, 1, 0, 0])) (kAt (cfgOf Tryz.prog pureF pureT C [(2, [0, 1, 5, 6, 7]), (10, [0, 5, 6, 10]), (16, [0, 5, 6, 13])] 75) (bodyOf Tryz.prog 75) [1, 1, 1, 0, 1, 0] (endK Tryz.prog 75 K)) [(0, (ptr x0 0)), (5, (ptr a5 0)), (6, (.bool t6)), (13, (.int .i64 i13))] m := by
  refine loop_rule (σ := γ × Bool × Int) (fun s => F75_3 x0 a5 s.2.1 s.2.2) (fun s m => J s.1 s.2.1 s.2.2 m) (fun s => μ s.1 s.2.1 s.2.2) (g, t6, i13) rfl hJ ?_
  intro s m hJ
  have h := hs s.1 s.2.1 s.2.2 m hJ
  refine e75_3 ?_
  refine Eq.mp (congrArg (fun B => s75_3 C x0 a5 s.2.1 s.2.2 (andThenE B (kAt (cfgOf Tryz.prog pureF pureT C [(2, [0, 1, 5, 6, 7]), (10, [0, 5, 6, 10]), (16, [0, 5, 6, 13])] 75) (bodyOf Tryz.prog 75) [1, 1, 1, 0, 1, 0] (endK Tryz.prog 75 K))) m) ?_) h
  funext fr m'
  apply propext
  constructor
  · rintro ⟨g', t6', i13', h1, h2, h3⟩
    exact ⟨(g', t6', i13'), h1, h2, h3⟩
  · rintro ⟨⟨g', t6', i13'⟩, h1, h2, h3⟩
    exact ⟨g', t6', i13', h1, h2, h3⟩

def s76 (C : CallT) (model0a : Option Addr) (model0l model0c : Nat) (K : Value → Mem → Prop) (m : Mem) : Prop :=
  ifB (((model0l : Nat) : Int) != 12)
  (K (.tuple #[(.int .i64 0), (.bool false)]) m)
  (loopE [0, 2, 3, 4, 5] (evCode (cfgOf Tryz.prog pureF pureT C [(5, [0, 2, 3, 4, 5])] 76) (codeAt (bodyOf Tryz.prog 76) [1, 1, 1, 0, 1, 0, 0])) (kAt (cfgOf Tryz.prog pureF pureT C [(5, [0, 2, 3, 4, 5])] 76) (bodyOf Tryz.prog 76) [1, 1, 1, 0, 1, 0] (endK Tryz.prog 76 K)) [(0, (.slice model0a model0l model0c)), (2, (.int .i64 0)), (3, (.bool false)), (4, (.int .i64 0)), (5, (.int .i64 1))] m)
theorem e76 (C : CallT) (model0a : Option Addr) (model0l model0c : Nat) (K : Value → Mem → Prop) (m : Mem) : evFn Tryz.prog pureF pureT C [(5, [0, 2, 3, 4, 5])] 76 [(.slice model0a model0l model0c)] K m = s76 C model0a model0l model0c K m := by kernel_rfl
theorem call76 {W0 : World} {model0a : Option Addr} {model0l model0c : Nat} {K : Value → Mem → Prop} {m : Mem} (h : s76 (callOK Tryz.prog W0) model0a model0l model0c K m) : callOK Tryz.prog W0 76 [(.slice model0a model0l model0c)] K m :=
  evFn_sound pureOk mixedP (fun w => Tryz.call76 _ w) ((e76 (callOK Tryz.prog W0) model0a model0l model0c K m).symm ▸ h)
def s76_1 (C : CallT) (model0a : Option Addr) (model0l model0c : Nat) (t2 : Int) (t3 : Bool) (mask4 : Int) (v5 : Int) (Kt : Exit → Fr → Mem → Prop) (m : Mem) : Prop :=
  ifB (decide (v5 ≤ 12))
  (ckP model0a fun b_1 o_1 =>
  ckI (IntKind.wrap .i64 (v5 - 1)) model0l fun j_2 =>
  ldInt .i64 m b_1 (o_1 + j_2) fun x_3 =>
  ifB (x_3 == v5)
  ((0 : Int) ≤ (IntKind.wrap .u64 (IntKind.wrap .i64 (v5 - 1))) ∧
  Kt .normal [(0, (.slice model0a model0l model0c)), (2, (.int .i64 t2)), (3, (.bool t3)), (4, (.int .i64 (bOr .i64 mask4 (shlV .i64 1 (IntKind.wrap .u64 (IntKind.wrap .i64 (v5 - 1))))))), (5, (.int .i64 (IntKind.wrap .i64 (v5 + 1))))] m)
  (ifB (x_3 != (IntKind.wrap .i64 (0 - v5)))
  (Kt .ret [(0, (.slice model0a model0l model0c)), (2, (.int .i64 0)), (3, (.bool false)), (4, (.int .i64 mask4)), (5, (.int .i64 v5))] m)
  (Kt .normal [(0, (.slice model0a model0l model0c)), (2, (.int .i64 t2)), (3, (.bool t3)), (4, (.int .i64 mask4)), (5, (.int .i64 (IntKind.wrap .i64 (v5 + 1))))] m)))
  (Kt (.exit 0) [(0, (.slice model0a model0l model0c)), (2, (.int .i64 t2)), (3, (.bool t3)), (4, (.int .i64 mask4)), (5, (.int .i64 v5))] m)
theorem e76_1 {C : CallT} {model0a : Option Addr} {model0l model0c : Nat} {t2 : Int} {t3 : Bool} {mask4 : Int} {v5 : Int} {Kt : Exit → Fr → Mem → Prop} {m : Mem} (h : s76_1 C model0a model0l model0c t2 t3 mask4 v5 Kt m) : evCode (cfgOf Tryz.prog pureF pureT C [(5, [0, 2, 3, 4, 5])] 76) (codeAt (bodyOf Tryz.prog 76) [1, 1, 1, 0, 1, 0, 0]) (trimK [0, 2, 3, 4, 5] Kt) [(0, (.slice model0a model0l model0c)), (2, (.int .i64 t2)), (3, (.bool t3)), (4, (.int .i64 mask4)), (5, (.int .i64 v5))] m :=
  (show _ = _ by kernel_rfl : evCode (cfgOf Tryz.prog pureF pureT C [(5, [0, 2, 3, 4, 5])] 76) (codeAt (bodyOf Tryz.prog 76) [1, 1, 1, 0, 1, 0, 0]) (trimK [0, 2, 3, 4, 5] Kt) [(0, (.slice model0a model0l model0c)), (2, (.int .i64 t2)), (3, (.bool t3)), (4, (.int .i64 mask4)), (5, (.int .i64 v5))] m = s76_1 C model0a model0l model0c t2 t3 mask4 v5 Kt m).symm ▸ h
def s76_1r (C : CallT) (model0a : Option Addr) (model0l model0c : Nat) (t2 : Int) (t3 : Bool) (mask4 : Int) (v5 : Int) (K : Value → Mem → Prop) (m : Mem) : Prop :=
  K (.tuple #[(.int .i64 t2), (.bool t3)]) m
theorem e76_1r {C : CallT} {kn : Fr → Mem → Prop} {model0a : Option Addr} {model0l model0c : Nat} {t2 : Int} {t3 : Bool} {mask4 : Int} {v5 : Int} {K : Value → Mem → Prop} {m : Mem} : (andThenE kn (kAt (cfgOf Tryz.prog pureF pureT C [(5, [0, 2, 3, 4, 5])] 76) (bodyOf Tryz.prog 76) [1, 1, 1, 0, 1, 0] (endK Tryz.prog 76 K)) .ret [(0, (.slice model0a model0l model0c)), (2, (.int .i64 t2)), (3, (.bool t3)), (4, (.int .i64 mask4)), (5, (.int .i64 v5))] m) = s76_1r C model0a model0l model0c t2 t3 mask4 v5 K m := by kernel_rfl
def s76_1x0 (C : CallT) (model0a : Option Addr) (model0l model0c : Nat) (t2 : Int) (t3 : Bool) (mask4 : Int) (v5 : Int) (K : Value → Mem → Prop) (m : Mem) : Prop :=
  K (.tuple #[(.int .i64 mask4), (.bool true)]) m
theorem e76_1x0 {C : CallT} {kn : Fr → Mem → Prop} {model0a : Option Addr} {model0l model0c : Nat} {t2 : Int} {t3 : Bool} {mask4 : Int} {v5 : Int} {K : Value → Mem → Prop} {m : Mem} : (andThenE kn (kAt (cfgOf Tryz.prog pureF pureT C [(5, [0, 2, 3, 4, 5])] 76) (bodyOf Tryz.prog 76) [1, 1, 1, 0, 1, 0] (endK Tryz.prog 76 K)) (.exit 0) [(0, (.slice model0a model0l model0c)), (2, (.int .i64 t2)), (3, (.bool t3)), (4, (.int .i64 mask4)), (5, (.int .i64 v5))] m) = s76_1x0 C model0a model0l model0c t2 t3 mask4 v5 K m := by kernel_rfl
def F76_1 (model0a : Option Addr) (model0l model0c : Nat) (t2 : Int) (t3 : Bool) (mask4 : Int) (v5 : Int) : Fr := [(0, (.slice model0a model0l model0c)), (2, (.int .i64 t2)), (3, (.bool t3)), (4, (.int .i64 mask4)), (5, (.int .i64 v5))]
theorem loop76_1 {C : CallT} {γ : Type} {model0a : Option Addr} {model0l model0c : Nat} {K : Value → Mem → Prop} {m : Mem} (J : γ → Int → Bool → Int → Int → Mem → Prop) (μ : γ → Int → Bool → Int → Int → Nat) (g : γ) {t2 : Int} {t3 : Bool} {mask4 : Int} {v5 : Int} (hJ : J g t2 t3 mask4 v5 m)
    (hs : ∀ g t2 t3 mask4 v5 m, J g t2 t3 mask4 v5 m → s76_1 C model0a model0l model0c t2 t3 mask4 v5 (andThenE (fun fr m' => ∃ g' t2' t3' mask4' v5', fr = F76_1 model0a model0l model0c t2' t3' mask4' v5' ∧ J g' t2' t3' mask4' v5' m' ∧ μ g' t2' t3' mask4' v5' < μ g t2 t3 mask4 v5) (kAt (cfgOf Tryz.prog pureF pureT C [(5, [0, 2, 3, 4, 5])] 76) (bodyOf Tryz.prog 76) [1, 1, 1, 0, 1, 0] (endK Tryz.prog 76 K))) m) :
    loopE [0, 2, 3, 4, 5] (evCode (cfgOf Tryz.prog pureF pureT C [(5, [0, 2, 3, 4, 5])] 76) (codeAt (bodyOf Tryz.prog 76) [1, 1, 1, 0, 1, 0, 0])) (kAt (cfgOf Tryz.prog pureF pureT C [(5, [0, 2, 3, 4, 5])] 76) (bodyOf Tryz.prog 76) [1, 1, 1, 0, 1, 0] (endK Tryz.prog 76 K)) [(0, (.slice model0a model0l model0c)), (2, (.int .i64 t2)), (3, (.bool t3)), (4, (.int .i64 mask4)), (5, (.int .i64 v5))] m := by
  refine loop_rule (σ := γ × Int × Bool × Int × Int) (fun s => F76_1 model0a model0l model0c s.2.1 s.2.2.1 s.2.2.2.1 s.2.2.2.2) (fun s m => J s.1 s.2.1 s.2.2.1 s.2.2.2.1 s.2.2.2.2 m) (fun s => μ s.1 s.2.1 s.2.2.1 s.2.2.2.1 s.2.2.2.2) (g, t2, t3, mask4, v5) rfl hJ ?_
  intro s m hJ
  have h := hs s.1 s.2.1 s.2.2.1 s.2.2.2.1 s.2.2.2.2 m hJ
  refine e76_1 ?_
  refine Eq.mp (congrArg (fun B => s76_1 C model0a model0l model0c s.2.1 s.2.2.1 s.2.2.2.1 s.2.2.2.2 (andThenE B (kAt (cfgOf Tryz.prog pureF pureT C [(5, [0, 2, 3, 4, 5])] 76) (bodyOf Tryz.prog 76) [1, 1, 1, 0, 1, 0] (endK Tryz.prog 76 K))) m) ?_) h
  funext fr m'
  apply propext
  constructor
  · rintro ⟨g', t2', t3', mask4', v5', h1, h2, h3⟩
    exact ⟨(g', t2', t3', mask4', v5'), h1, h2, h3⟩
  · rintro ⟨⟨g', t2', t3', mask4', v5'⟩, h1, h2, h3⟩
    exact ⟨g', t2', t3', mask4', v5', h1, h2, h3⟩

def s77 (C : CallT) (cs0a : Option Addr) (cs0l cs0c : Nat) (mask1 : Int) (K : Value → Mem → Prop) (m : Mem) : Prop :=
  loopE [0, 1, 4, 5] (evCode (cfgOf Tryz.prog pureF pureT C [(2, [0, 1, 4, 5])] 77) (codeAt (bodyOf Tryz.prog 77) [1, 0, 1, 0, 0])) (kAt (cfgOf Tryz.prog pureF pureT C [(2, [0, 1, 4, 5])] 77) (bodyOf Tryz.prog 77) [1, 0, 1, 0] (endK Tryz.prog 77 K)) [(0, (.slice cs0a cs0l cs0c)), (1, (.int .i64 mask1)), (4, (.bool false)), (5, (.int .i64 0))] m
theorem e77 (C : CallT) (cs0a : Option Addr) (cs0l cs0c : Nat) (mask1 : Int) (K : Value → Mem → Prop) (m : Mem) : evFn Tryz.prog pureF pureT C [(2, [0, 1, 4, 5])] 77 [(.slice cs0a cs0l cs0c), (.int .i64 mask1)] K m = s77 C cs0a cs0l cs0c mask1 K m := by kernel_rfl
theorem call77 {W0 : World} {cs0a : Option Addr} {cs0l cs0c : Nat} {mask1 : Int} {K : Value → Mem → Prop} {m : Mem} (h : s77 (callOK Tryz.prog W0) cs0a cs0l cs0c mask1 K m) : callOK Tryz.prog W0 77 [(.slice cs0a cs0l cs0c), (.int .i64 mask1)] K m :=
  evFn_sound pureOk mixedP (fun w => Tryz.call77 _ w) ((e77 (callOK Tryz.prog W0) cs0a cs0l cs0c mask1 K m).symm ▸ h)
def s77_1 (C : CallT) (cs0a : Option Addr) (cs0l cs0c : Nat) (mask1 : Int) (t4 : Bool) (i5 : Int) (Kt : Exit → Fr → Mem → Prop) (m : Mem) : Prop :=
  ifB (decide (i5 < ((cs0l : Nat) : Int)))
  (ckP cs0a fun b_1 o_1 =>
  ckI i5 cs0l fun j_2 =>
  ldSl m b_1 (o_1 + j_2) fun l_3a l_3l l_3c =>
  C 126 [(.slice l_3a l_3l l_3c), (.int .i64 mask1)] (fun rm_5 m_5 =>
  ∃ x_4, rm_5 = (.bool x_4) ∧
  ifB (!x_4)
  (Kt .ret [(0, (.slice cs0a cs0l cs0c)), (1, (.int .i64 mask1)), (4, (.bool false)), (5, (.int .i64 i5))] m_5)
  (Kt .normal [(0, (.slice cs0a cs0l cs0c)), (1, (.int .i64 mask1)), (4, (.bool t4)), (5, (.int .i64 (IntKind.wrap .i64 (i5 + 1))))] m_5)) m)
  (Kt (.exit 0) [(0, (.slice cs0a cs0l cs0c)), (1, (.int .i64 mask1)), (4, (.bool t4)), (5, (.int .i64 i5))] m)
theorem e77_1 {C : CallT} {cs0a : Option Addr} {cs0l cs0c : Nat} {mask1 : Int} {t4 : Bool} {i5 : Int} {Kt : Exit → Fr → Mem → Prop} {m : Mem} (h : s77_1 C cs0a cs0l cs0c mask1 t4 i5 Kt m) : evCode (cfgOf Tryz.prog pureF pureT C [(2, [0, 1, 4, 5])] 77) (codeAt (bodyOf Tryz.prog 77) [1, 0, 1, 0, 0]) (trimK [0, 1, 4, 5] Kt) [(0, (.slice cs0a cs0l cs0c)), (1, (.int .i64 mask1)), (4, (.bool t4)), (5, (.int .i64 i5))] m :=
  (show _ = _ by kernel_rfl : evCode (cfgOf Tryz.prog pureF pureT C [(2, [0, 1, 4, 5])] 77) (codeAt (bodyOf Tryz.prog 77) [1, 0, 1, 0, 0]) (trimK [0, 1, 4, 5] Kt) [(0, (.slice cs0a cs0l cs0c)), (1, (.int .i64 mask1)), (4, (.bool t4)), (5, (.int .i64 i5))] m = s77_1 C cs0a cs0l cs0c mask1 t4 i5 Kt m).symm ▸ h
def s77_1r (C : CallT) (cs0a : Option Addr) (cs0l cs0c : Nat) (mask1 : Int) (t4 : Bool) (i5 : Int) (K : Value → Mem → Prop) (m : Mem) : Prop :=
  K (.bool t4) m
theorem e77_1r {C : CallT} {kn : Fr → Mem → Prop} {cs0a : Option Addr} {cs0l cs0c : Nat} {mask1 : Int} {t4 : Bool} {i5 : Int} {K : Value → Mem → Prop} {m : Mem} : (andThenE kn (kAt (cfgOf Tryz.prog pureF pureT C [(2, [0, 1, 4, 5])] 77) (bodyOf Tryz.prog 77) [1, 0, 1, 0] (endK Tryz.prog 77 K)) .ret [(0, (.slice cs0a cs0l cs0c)), (1, (.int .i64 mask1)), (4, (.bool t4)), (5, (.int .i64 i5))] m) = s77_1r C cs0a cs0l cs0c mask1 t4 i5 K m := by kernel_rfl
def s77_1x0 (C : CallT) (cs0a : Option Addr) (cs0l cs0c : Nat) (mask1 : Int) (t4 : Bool) (i5 : Int) (K : Value → Mem → Prop) (m : Mem) : Prop :=
  K (.bool true) m
theorem e77_1x0 {C : CallT} {kn : Fr → Mem → Prop} {cs0a : Option Addr} {cs0l cs0c : Nat} {mask1 : Int} {t4 : Bool} {i5 : Int} {K : Value → Mem → Prop} {m : Mem} : (andThenE kn (kAt (cfgOf Tryz.prog pureF pureT C [(2, [0, 1, 4, 5])] 77) (bodyOf Tryz.prog 77) [1, 0, 1, 0] (endK Tryz.prog 77 K)) (.exit 0) [(0, (.slice cs0a cs0l cs0c)), (1, (.int .i64 mask1)), (4, (.bool t4)), (5, (.int .i64 i5))] m) = s77_1x0 C cs0a cs0l cs0c mask1 t4 i5 K m := by kernel_rfl
def F77_1 (cs0a : Option Addr) (cs0l cs0c : Nat) (mask1 : Int) (t4 : Bool) (i5 : Int) : Fr := [(0, (.slice cs0a cs0l cs0c)), (1, (.int .i64 mask1)), (4, (.bool t4)), (5, (.int .i64 i5))]
theorem loop77_1 {C : CallT} {γ : Type} {cs0a : Option Addr} {cs0l cs0c : Nat} {mask1 : Int} {K : Value → Mem → Prop} {m : Mem} (J : γ → Bool → Int → Mem → Prop) (μ : γ → Bool → Int → Nat) (g : γ) {t4 : Bool} {i5 : Int} (hJ : J g t4 i5 m)
    (hs : ∀ g t4 i5 m, J g t4 i5 m → s77_1 C cs0a cs0l cs0c mask1 t4 i5 (andThenE (fun fr m' => ∃ g' t4' i5', fr = F77_1 cs0a cs0l cs0c mask1 t4' i5' ∧ J g' t4' i5' m' ∧ μ g' t4' i5' < μ g t4 i5) (kAt (cfgOf Tryz.prog pureF pureT C [(2, [0, 1, 4, 5])] 77) (bodyOf Tryz.prog 77) [1, 0, 1, 0] (endK Tryz.prog 77 K))) m) :
    loopE [0, 1, 4, 5] (evCode (cfgOf Tryz.prog pureF pureT C [(2, [0, 1, 4, 5])] 77) (codeAt (bodyOf Tryz.prog 77) [1, 0, 1, 0, 0])) (kAt (cfgOf Tryz.prog pureF pureT C [(2, [0, 1, 4, 5])] 77) (bodyOf Tryz.prog 77) [1, 0, 1, 0] (endK Tryz.prog 77 K)) [(0, (.slice cs0a cs0l cs0c)), (1, (.int .i64 mask1)), (4, (.bool t4)), (5, (.int .i64 i5))] m := by
  refine loop_rule (σ := γ × Bool × Int) (fun s => F77_1 cs0a cs0l cs0c mask1 s.2.1 s.2.2) (fun s m => J s.1 s.2.1 s.2.2 m) (fun s => μ s.1 s.2.1 s.2.2) (g, t4, i5) rfl hJ ?_
  intro s m hJ
  have h := hs s.1 s.2.1 s.2.2 m hJ
  refine e77_1 ?_
  refine Eq.mp (congrArg (fun B => s77_1 C cs0a cs0l cs0c mask1 s.2.1 s.2.2 (andThenE B (kAt (cfgOf Tryz.prog pureF pureT C [(2, [0, 1, 4, 5])] 77) (bodyOf Tryz.prog 77) [1, 0, 1, 0] (endK Tryz.prog 77 K))) m) ?_) h
  funext fr m'
  apply propext
  constructor
  · rintro ⟨g', t4', i5', h1, h2, h3⟩
    exact ⟨(g', t4', i5'), h1, h2, h3⟩
  · rintro ⟨⟨g', t4', i5'⟩, h1, h2, h3⟩
    exact ⟨g', t4', i5', h1, h2, h3⟩

def s78 (C : CallT) (x0 : Nat) (K : Value → Mem → Prop) (m : Mem) : Prop :=
  ldPtr m x0 2 fun p_1 =>
  C 127 [(.pointer p_1)] (fun rm_3 m_3 =>
  ∃ x_2a x_2l x_2c, rm_3 = (.slice x_2a x_2l x_2c) ∧
  loopE [0, 3, 4, 5] (evCode (cfgOf Tryz.prog pureF pureT C [(4, [0, 3, 4, 5])] 78) (codeAt (bodyOf Tryz.prog 78) [1, 1, 1, 0, 1, 0, 0])) (kAt (cfgOf Tryz.prog pureF pureT C [(4, [0, 3, 4, 5])] 78) (bodyOf Tryz.prog 78) [1, 1, 1, 0, 1, 0] (endK Tryz.prog 78 K)) [(0, (ptr x0 0)), (3, (.slice x_2a x_2l x_2c)), (4, (.slice none 0 0)), (5, (.int .i64 0))] m_3) m
theorem e78 (C : CallT) (x0 : Nat) (K : Value → Mem → Prop) (m : Mem) : evFn Tryz.prog pureF pureT C [(4, [0, 3, 4, 5])] 78 [(ptr x0 0)] K m = s78 C x0 K m := by kernel_rfl
theorem call78 {W0 : World} {x0 : Nat} {K : Value → Mem → Prop} {m : Mem} (h : s78 (callOK Tryz.prog W0) x0 K m) : callOK Tryz.prog W0 78 [(ptr x0 0)] K m :=
  evFn_sound pureOk mixedP (fun w => Tryz.call78 _ w) ((e78 (callOK Tryz.prog W0) x0 K m).symm ▸ h)
def s78_1 (C : CallT) (x0 : Nat) (ids3a : Option Addr) (ids3l ids3c : Nat) (out4a : Option Addr) (out4l out4c : Nat) (i5 : Int) (Kt : Exit → Fr → Mem → Prop) (m : Mem) : Prop :=
  ifB (decide (i5 < ((ids3l : Nat) : Int)))
  (ldPtr m x0 2 fun p_4 =>
  ckP ids3a fun b_5 o_5 =>
  ckI i5 ids3l fun j_6 =>
  ldInt .i64 m b_5 (o_5 + j_6) fun x_7 =>
  C 46 [(.pointer p_4), (.int .i64 x_7)] (fun rm_10 m_10 =>
  ∃ x_8a x_8l x_8c x_9, rm_10 = (.tuple #[(.slice x_8a x_8l x_8c), (.int .i64 x_9)]) ∧
  allocB m_10 (Blk.ofList [(.slice x_8a x_8l x_8c)]) fun b_11 m_12 =>
  rdRow m_12 (some ⟨b_11, 0, none⟩) (1 * 1) fun r_15 =>
  appendC m_12 1 24 [(.slice none 0 0)] out4a out4l out4c 1 r_15 fun a_13 c_13 m_14 =>
  Kt .normal [(0, (ptr x0 0)), (3, (.slice ids3a ids3l ids3c)), (4, (.slice a_13 (out4l + 1) c_13)), (5, (.int .i64 (IntKind.wrap .i64 (i5 + 1))))] m_14) m)
  (Kt (.exit 0) [(0, (ptr x0 0)), (3, (.slice ids3a ids3l ids3c)), (4, (.slice out4a out4l out4c)), (5, (.int .i64 i5))] m)
theorem e78_1 {C : CallT} {x0 : Nat} {ids3a : Option Addr} {ids3l ids3c : Nat} {out4a : Option Addr} {out4l out4c : Nat} {i5 : Int} {Kt : Exit → Fr → Mem → Prop} {m : Mem} (h : s78_1 C x0 ids3a ids3l ids3c out4a out4l out4c i5 Kt m) : evCode (cfgOf Tryz.prog pureF pureT C [(4, [0, 3, 4, 5])] 78) (codeAt (bodyOf Tryz.prog 78) [1, 1, 1, 0, 1, 0, 0]) (trimK [0, 3, 4, 5] Kt) [(0, (ptr x0 0)), (3, (.slice ids3a ids3l ids3c)), (4, (.slice out4a out4l out4c)), (5, (.int .i64 i5))] m :=
  (show _ = _ by kernel_rfl : evCode (cfgOf Tryz.prog pureF pureT C [(4, [0, 3, 4, 5])] 78) (codeAt (bodyOf Tryz.prog 78) [1, 1, 1, 0, 1, 0, 0]) (trimK [0, 3, 4, 5] Kt) [(0, (ptr x0 0)), (3, (.slice ids3a ids3l ids3c)), (4, (.slice out4a out4l out4c)), (5, (.int .i64 i5))] m = s78_1 C x0 ids3a ids3l ids3c out4a out4l out4c i5 Kt m).symm ▸ h
def s78_1x0 (C : CallT) (x0 : Nat) (ids3a : Option Addr) (ids3l ids3c : Nat) (out4a : Option Addr) (out4l out4c : Nat) (i5 : Int) (K : Value → Mem → Prop) (m : Mem) : Prop :=
  K (.slice out4a out4l out4c) m
theorem e78_1x0 {C : CallT} {kn : Fr → Mem → Prop} {x0 : Nat} {ids3a : Option Addr} {ids3l ids3c : Nat} {out4a : Option Addr} {out4l out4c : Nat} {i5 : Int} {K : Value → Mem → Prop} {m : Mem} : (andThenE kn (kAt (cfgOf Tryz.prog pureF pureT C [(4, [0, 3, 4, 5])] 78) (bodyOf Tryz.prog 78) [1, 1, 1, 0, 1, 0] (endK Tryz.prog 78 K)) (.exit 0) [(0, (ptr x0 0)), (3, (.slice ids3a ids3l ids3c)), (4, (.slice out4a out4l out4c)), (5, (.int .i64 i5))] m) = s78_1x0 C x0 ids3a ids3l ids3c out4a out4l out4c i5 K m := by kernel_rfl
def F78_1 (x0 : Nat) (ids3a : Option Addr) (ids3l ids3c : Nat) (out4a : Option Addr) (out4l out4c : Nat) (i5 : Int) : Fr := [(0, (ptr x0 0)), (3, (.slice ids3a ids3l ids3c)), (4, (.slice out4a out4l out4c)), (5, (.int .i64 i5))]
theorem loop78_1 {C : CallT} {γ : Type} {x0 : Nat} {ids3a : Option Addr} {ids3l ids3c : Nat} {K : Value → Mem → Prop} {m : Mem} (J : γ → Option Addr → Nat → Nat → Int → Mem → Prop) (μ : γ → Option Addr → Nat → Nat → Int → Nat) (g : γ) {out4a : Option Addr} {out4l out4c : Nat} {i5 : Int} (hJ : J g out4a out4l out4c i5 m)
    (hs : ∀ g out4a out4l out4c i5 m, J g out4a out4l out4c i5 m → s78_1 C x0 ids3a ids3l ids3c out4a out4l out4c i5 (andThenE (fun fr m' => ∃ g' out4a' out4l' out4c' i5', fr = F78_1 x0 ids3a ids3l ids3c out4a' out4l' out4c' i5' ∧ J g' out4a' out4l' out4c' i5' m' ∧ μ g' out4a' out4l' out4c' i5' < μ g out4a out4l out4c i5) (kAt (cfgOf Tryz.prog pureF pureT C [(4, [0, 3, 4, 5])] 78) (bodyOf Tryz.prog 78) [1, 1, 1, 0, 1, 0] (endK Tryz.prog 78 K))) m) :
    loopE [0, 3, 4, 5] (evCode (cfgOf Tryz.prog pureF pureT C [(4, [0, 3, 4, 5])] 78) (codeAt (bodyOf Tryz.prog 78) [1, 1, 1, 0, 1, 0, 0])) (kAt (cfgOf Tryz.prog pureF pureT C [(4, [0, 3, 4, 5])] 78) (bodyOf Tryz.prog 78) [1, 1, 1, 0, 1, 0] (endK Tryz.prog 78 K)) [(0, (ptr x0 0)), (3, (.slice ids3a ids3l ids3c)), (4, (.slice out4a out4l out4c)), (5, (.int .i64 i5))] m := by
  refine loop_rule (σ := γ × Option Addr × Nat × Nat × Int) (fun s => F78_1 x0 ids3a ids3l ids3c s.2.1 s.2.2.1 s.2.2.2.1 s.2.2.2.2) (fun s m => J s.1 s.2.1 s.2.2.1 s.2.2.2.1 s.2.2.2.2 m) (fun s => μ s.1 s.2.1 s.2.2.1 s.2.2.2.1 s.2.2.2.2) (g, out4a, out4l, out4c, i5) rfl hJ ?_
  intro s m hJ
  have h := hs s.1 s.2.1 s.2.2.1 s.2.2.2.1 s.2.2.2.2 m hJ
  refine e78_1 ?_
  refine Eq.mp (congrArg (fun B => s78_1 C x0 ids3a ids3l ids3c s.2.1 s.2.2.1 s.2.2.2.1 s.2.2.2.2 (andThenE B (kAt (cfgOf Tryz.prog pureF pureT C [(4, [0, 3, 4, 5])] 78) (bodyOf Tryz.prog 78) [1, 1, 1, 0, 1, 0] (endK Tryz.prog 78 K))) m) ?_) h
  funext fr m'
  apply propext
  constructor
  · rintro ⟨g', out4a', out4l', out4c', i5', h1, h2, h3⟩
    exact ⟨(g', out4a', out4l', out4c', i5'), h1, h2, h3⟩
  · rintro ⟨⟨g', out4a', out4l', out4c', i5'⟩, h1, h2, h3⟩
    exact ⟨g', out4a', out4l', out4c', i5', h1, h2, h3⟩

def s79 (C : CallT) (cs0a : Option Addr) (cs0l cs0c : Nat) (c1a : Option Addr) (c1l c1c : Nat) (K : Value → Mem → Prop) (m : Mem) : Prop :=
  loopE [0, 1, 4, 5] (evCode (cfgOf Tryz.prog pureF pureT C [(2, [0, 1, 4, 5])] 79) (codeAt (bodyOf Tryz.prog 79) [1, 0, 1, 0, 0])) (kAt (cfgOf Tryz.prog pureF pureT C [(2, [0, 1, 4, 5])] 79) (bodyOf Tryz.prog 79) [1, 0, 1, 0] (endK Tryz.prog 79 K)) [(0, (.slice cs0a cs0l cs0c)), (1, (.slice c1a c1l c1c)), (4, (.bool false)), (5, (.int .i64 0))] m
theorem e79 (C : CallT) (cs0a : Option Addr) (cs0l cs0c : Nat) (c1a : Option Addr) (c1l c1c : Nat) (K : Value → Mem → Prop) (m : Mem) : evFn Tryz.prog pureF pureT C [(2, [0, 1, 4, 5])] 79 [(.slice cs0a cs0l cs0c), (.slice c1a c1l c1c)] K m = s79 C cs0a cs0l cs0c c1a c1l c1c K m := by kernel_rfl
theorem call79 {W0 : World} {cs0a : Option Addr} {cs0l cs0c : Nat} {c1a : Option Addr} {c1l c1c : Nat} {K : Value → Mem → Prop} {m : Mem} (h : s79 (callOK Tryz.prog W0) cs0a cs0l cs0c c1a c1l c1c K m) : callOK Tryz.prog W0 79 [(.slice cs0a cs0l cs0c), (.slice c1a c1l c1c)] K m :=
  evFn_sound pureOk mixedP (fun w => Tryz.call79 _ w) ((e79 (callOK Tryz.prog W0) cs0a cs0l cs0c c1a c1l c1c K m).symm ▸ h)
def s79_1 (C : CallT) (cs0a : Option Addr) (cs0l cs0c : Nat) (c1a : Option Addr) (c1l c1c : Nat) (t4 : Bool) (mask5 : Int) (Kt : Exit → Fr → Mem → Prop) (m : Mem) : Prop :=
  ifB (decide (mask5 < 4096))
  (C 77 [(.slice cs0a cs0l cs0c), (.int .i64 mask5)] (fun rm_2 m_2 =>
  ∃ x_1, rm_2 = (.bool x_1) ∧
  ifB x_1
  (C 126 [(.slice c1a c1l c1c), (.int .i64 mask5)] (fun rm_4 m_4 =>
  ∃ x_3, rm_4 = (.bool x_3) ∧
  ifB (!x_3)
  (Kt .ret [(0, (.slice cs0a cs0l cs0c)), (1, (.slice c1a c1l c1c)), (4, (.bool false)), (5, (.int .i64 mask5))] m_4)
  (Kt .normal [(0, (.slice cs0a cs0l cs0c)), (1, (.slice c1a c1l c1c)), (4, (.bool t4)), (5, (.int .i64 (IntKind.wrap .i64 (mask5 + 1))))] m_4)) m_2)
  (Kt .normal [(0, (.slice cs0a cs0l cs0c)), (1, (.slice c1a c1l c1c)), (4, (.bool t4)), (5, (.int .i64 (IntKind.wrap .i64 (mask5 + 1))))] m_2)) m)
  (Kt (.exit 0) [(0, (.slice cs0a cs0l cs0c)), (1, (.slice c1a c1l c1c)), (4, (.bool t4)), (5, (.int .i64 mask5))] m)
theorem e79_1 {C : CallT} {cs0a : Option Addr} {cs0l cs0c : Nat} {c1a : Option Addr} {c1l c1c : Nat} {t4 : Bool} {mask5 : Int} {Kt : Exit → Fr → Mem → Prop} {m : Mem} (h : s79_1 C cs0a cs0l cs0c c1a c1l c1c t4 mask5 Kt m) : evCode (cfgOf Tryz.prog pureF pureT C [(2, [0, 1, 4, 5])] 79) (codeAt (bodyOf Tryz.prog 79) [1, 0, 1, 0, 0]) (trimK [0, 1, 4, 5] Kt) [(0, (.slice cs0a cs0l cs0c)), (1, (.slice c1a c1l c1c)), (4, (.bool t4)), (5, (.int .i64 mask5))] m :=
  (show _ = _ by kernel_rfl : evCode (cfgOf Tryz.prog pureF pureT C [(2, [0, 1, 4, 5])] 79) (codeAt (bodyOf Tryz.prog 79) [1, 0, 1, 0, 0]) (trimK [0, 1, 4, 5] Kt) [(0, (.slice cs0a cs0l cs0c)), (1, (.slice c1a c1l c1c)), (4, (.bool t4)), (5, (.int .i64 mask5))] m = s79_1 C cs0a cs0l cs0c c1a c1l c1c t4 mask5 Kt m).symm ▸ h
def s79_1r (C : CallT) (cs0a : Option Addr) (cs0l cs0c : Nat) (c1a : Option Addr) (c1l c1c : Nat) (t4 : Bool) (mask5 : Int) (K : Value → Mem → Prop) (m : Mem) : Prop :=
  K (.bool t4) m
theorem e79_1r {C : CallT} {kn : Fr → Mem → Prop} {cs0a : Option Addr} {cs0l cs0c : Nat} {c1a : Option Addr} {c1l c1c : Nat} {t4 : Bool} {mask5 : Int} {K : Value → Mem → Prop} {m : Mem} : (andThenE kn (kAt (cfgOf Tryz.prog pureF pureT C [(2, [0, 1, 4, 5])] 79) (bodyOf Tryz.prog 79) [1, 0, 1, 0] (endK Tryz.prog 79 K)) .ret [(0, (.slice cs0a cs0l cs0c)), (1, (.slice c1a c1l c1c)), (4, (.bool t4)), (5, (.int .i64 mask5))] m) = s79_1r C cs0a cs0l cs0c c1a c1l c1c t4 mask5 K m := by kernel_rfl
def s79_1x0 (C : CallT) (cs0a : Option Addr) (cs0l cs0c : Nat) (c1a : Option Addr) (c1l c1c : Nat) (t4 : Bool) (mask5 : Int) (K : Value → Mem → Prop) (m : Mem) : Prop :=
  K (.bool true) m
theorem e79_1x0 {C : CallT} {kn : Fr → Mem → Prop} {cs0a : Option Addr} {cs0l cs0c : Nat} {c1a : Option Addr} {c1l c1c : Nat} {t4 : Bool} {mask5 : Int} {K : Value → Mem → Prop} {m : Mem} : (andThenE kn (kAt (cfgOf Tryz.prog pureF pureT C [(2, [0, 1, 4, 5])] 79) (bodyOf Tryz.prog 79) [1, 0, 1, 0] (endK Tryz.prog 79 K)) (.exit 0) [(0, (.slice cs0a cs0l cs0c)), (1, (.slice c1a c1l c1c)), (4, (.bool t4)), (5, (.int .i64 mask5))] m) = s79_1x0 C cs0a cs0l cs0c c1a c1l c1c t4 mask5 K m := by kernel_rfl
def F79_1 (cs0a : Option Addr) (cs0l cs0c : Nat) (c1a : Option Addr) (c1l c1c : Nat) (t4 : Bool) (mask5 : Int) : Fr := [(0, (.slice cs0a cs0l cs0c)), (1, (.slice c1a c1l c1c)), (4, (.bool t4)), (5, (.int .i64 mask5))]
theorem loop79_1 {C : CallT} {γ : Type} {cs0a : Option Addr} {cs0l cs0c : Nat} {c1a : Option Addr} {c1l c1c : Nat} {K : Value → Mem → Prop} {m : Mem} (J : γ → Bool → Int → Mem → Prop) (μ : γ → Bool → Int → Nat) (g : γ) {t4 : Bool} {mask5 : Int} (hJ : J g t4 mask5 m)
    (hs : ∀ g t4 mask5 m, J g t4 mask5 m → s79_1 C cs0a cs0l cs0c c1a c1l c1c t4 mask5 (andThenE (fun fr m' => ∃ g' t4' mask5', fr = F79_1 cs0a cs0l cs0c c1a c1l c1c t4' mask5' ∧ J g' t4' mask5' m' ∧ μ g' t4' mask5' < μ g t4 mask5) (kAt (cfgOf Tryz.prog pureF pureT C [(2, [0, 1, 4, 5])] 79) (bodyOf Tryz.prog 79) [1, 0, 1, 0] (endK Tryz.prog 79 K))) m) :
    loopE [0, 1, 4, 5] (evCode (cfgOf Tryz.prog pureF pureT C [(2, [0, 1, 4, 5])] 79) (codeAt (bodyOf Tryz.prog 79) [1, 0, 1, 0, 0])) (kAt (cfgOf Tryz.prog pureF pureT C [(2, [0, 1, 4, 5])] 79) (bodyOf Tryz.prog 79) [1, 0, 1, 0] (endK Tryz.prog 79 K)) [(0, (.slice cs0a cs0l cs0c)), (1, (.slice c1a c1l c1c)), (4, (.bool t4)), (5, (.int .i64 mask5))] m := by
  refine loop_rule (σ := γ × Bool × Int) (fun s => F79_1 cs0a cs0l cs0c c1a c1l c1c s.2.1 s.2.2) (fun s m => J s.1 s.2.1 s.2.2 m) (fun s => μ s.1 s.2.1 s.2.2) (g, t4, mask5) rfl hJ ?_
  intro s m hJ
  have h := hs s.1 s.2.1 s.2.2 m hJ
  refine e79_1 ?_
  refine Eq.mp (congrArg (fun B => s79_1 C cs0a cs0l cs0c c1a c1l c1c s.2.1 s.2.2 (andThenE B (kAt (cfgOf Tryz.prog pureF pureT C [(2, [0, 1, 4, 5])] 79) (bodyOf Tryz.prog 79) [1, 0, 1, 0] (endK Tryz.prog 79 K))) m) ?_) h
  funext fr m'
  apply propext
  constructor
  · rintro ⟨g', t4', mask5', h1, h2, h3⟩
    exact ⟨(g', t4', mask5'), h1, h2, h3⟩
  · rintro ⟨⟨g', t4', mask5'⟩, h1, h2, h3⟩
    exact ⟨g', t4', mask5', h1, h2, h3⟩

end Go.Proofs.Qxb6500974aGreat
