import Derived.Test.Qxb6500974aGreatPure
set_option linter.all false
set_option linter.unusedVariables false
set_option maxRecDepth 100000
namespace Go.Proofs.Qxb6500974aGreat
open Go.Eng

def s3 (C : CallT) (script0a : Option Addr) (script0l script0c : Nat) (K : Value → Mem → Prop) (m : Mem) : Prop :=
  C 4 [(.slice script0a script0l script0c)] (fun rm_2 m_2 =>
  ∃ x_1, rm_2 = (.bool x_1) ∧
  ifB (!x_1)
  (K (.bool true) m_2)
  (C 5 [(.slice script0a script0l script0c)] (fun rm_4 m_4 =>
  ∃ x_3, rm_4 = (.int .i64 x_3) ∧
  K (.bool (x_3 == (-1))) m_4) m_2)) m
theorem e3 (C : CallT) (script0a : Option Addr) (script0l script0c : Nat) (K : Value → Mem → Prop) (m : Mem) : evFn Tryz.prog pureF pureT C [] 3 [(.slice script0a script0l script0c)] K m = s3 C script0a script0l script0c K m := by kernel_rfl
theorem call3 {W0 : World} {script0a : Option Addr} {script0l script0c : Nat} {K : Value → Mem → Prop} {m : Mem} (h : s3 (callOK Tryz.prog W0) script0a script0l script0c K m) : callOK Tryz.prog W0 3 [(.slice script0a script0l script0c)] K m :=
  evFn_sound pureOk mixedP (fun w => Tryz.call3 _ w) ((e3 (callOK Tryz.prog W0) script0a script0l script0c K m).symm ▸ h)

def s4 (C : CallT) (script0a : Option Addr) (script0l script0c : Nat) (K : Value → Mem → Prop) (m : Mem) : Prop :=
  ifB (decide (((script0l : Nat) : Int) > 1073741824))
  (K (.bool false) m)
  (loopE [0, 2, 3, 4] (evCode (cfgOf Tryz.prog pureF pureT C [(5, [0, 2, 3, 4])] 4) (codeAt (bodyOf Tryz.prog 4) [1, 1, 1, 0, 1, 0, 0])) (kAt (cfgOf Tryz.prog pureF pureT C [(5, [0, 2, 3, 4])] 4) (bodyOf Tryz.prog 4) [1, 1, 1, 0, 1, 0] (endK Tryz.prog 4 K)) [(0, (.slice script0a script0l script0c)), (2, (.bool false)), (3, (.int .i64 ((script0l : Nat) : Int))), (4, (.int .i64 0))] m)
theorem e4 (C : CallT) (script0a : Option Addr) (script0l script0c : Nat) (K : Value → Mem → Prop) (m : Mem) : evFn Tryz.prog pureF pureT C [(5, [0, 2, 3, 4])] 4 [(.slice script0a script0l script0c)] K m = s4 C script0a script0l script0c K m := by kernel_rfl
theorem call4 {W0 : World} {script0a : Option Addr} {script0l script0c : Nat} {K : Value → Mem → Prop} {m : Mem} (h : s4 (callOK Tryz.prog W0) script0a script0l script0c K m) : callOK Tryz.prog W0 4 [(.slice script0a script0l script0c)] K m :=
  evFn_sound pureOk mixedP (fun w => Tryz.call4 _ w) ((e4 (callOK Tryz.prog W0) script0a script0l script0c K m).symm ▸ h)
def s4_1 (C : CallT) (script0a : Option Addr) (script0l script0c : Nat) (t2 : Bool) (n3 : Int) (i4 : Int) (Kt : Exit → Fr → Mem → Prop) (m : Mem) : Prop :=
  ifB (decide (i4 < ((script0l : Nat) : Int)))
  (ckP script0a fun b_1 o_1 =>
  ckI i4 script0l fun j_2 =>
  ldStr m b_1 ((o_1 + (j_2 * 6)) + 4) fun s_3 =>
  ckP script0a fun b_4 o_4 =>
  ckI i4 script0l fun j_5 =>
  ldStr m b_4 ((o_4 + (j_5 * 6)) + 5) fun s_6 =>
  ifB (decide ((IntKind.wrap .i64 ((IntKind.wrap .i64 (n3 + ((ByteArray.size s_3 : Nat) : Int))) + ((ByteArray.size s_6 : Nat) : Int))) > 1073741824))
  (Kt .ret [(0, (.slice script0a script0l script0c)), (2, (.bool false)), (3, (.int .i64 (IntKind.wrap .i64 ((IntKind.wrap .i64 (n3 + ((ByteArray.size s_3 : Nat) : Int))) + ((ByteArray.size s_6 : Nat) : Int))))), (4, (.int .i64 i4))] m)
  (Kt .normal [(0, (.slice script0a script0l script0c)), (2, (.bool t2)), (3, (.int .i64 (IntKind.wrap .i64 ((IntKind.wrap .i64 (n3 + ((ByteArray.size s_3 : Nat) : Int))) + ((ByteArray.size s_6 : Nat) : Int))))), (4, (.int .i64 (IntKind.wrap .i64 (i4 + 1))))] m))
  (Kt (.exit 0) [(0, (.slice script0a script0l script0c)), (2, (.bool t2)), (3, (.int .i64 n3)), (4, (.int .i64 i4))] m)
theorem e4_1 {C : CallT} {script0a : Option Addr} {script0l script0c : Nat} {t2 : Bool} {n3 : Int} {i4 : Int} {Kt : Exit → Fr → Mem → Prop} {m : Mem} (h : s4_1 C script0a script0l script0c t2 n3 i4 Kt m) : evCode (cfgOf Tryz.prog pureF pureT C [(5, [0, 2, 3, 4])] 4) (codeAt (bodyOf Tryz.prog 4) [1, 1, 1, 0, 1, 0, 0]) (trimK [0, 2, 3, 4] Kt) [(0, (.slice script0a script0l script0c)), (2, (.bool t2)), (3, (.int .i64 n3)), (4, (.int .i64 i4))] m :=
  (show _ = _ by kernel_rfl : evCode (cfgOf Tryz.prog pureF pureT C [(5, [0, 2, 3, 4])] 4) (codeAt (bodyOf Tryz.prog 4) [1, 1, 1, 0, 1, 0, 0]) (trimK [0, 2, 3, 4] Kt) [(0, (.slice script0a script0l script0c)), (2, (.bool t2)), (3, (.int .i64 n3)), (4, (.int .i64 i4))] m = s4_1 C script0a script0l script0c t2 n3 i4 Kt m).symm ▸ h
def s4_1r (C : CallT) (script0a : Option Addr) (script0l script0c : Nat) (t2 : Bool) (n3 : Int) (i4 : Int) (K : Value → Mem → Prop) (m : Mem) : Prop :=
  K (.bool t2) m
theorem e4_1r {C : CallT} {kn : Fr → Mem → Prop} {script0a : Option Addr} {script0l script0c : Nat} {t2 : Bool} {n3 : Int} {i4 : Int} {K : Value → Mem → Prop} {m : Mem} : (andThenE kn (kAt (cfgOf Tryz.prog pureF pureT C [(5, [0, 2, 3, 4])] 4) (bodyOf Tryz.prog 4) [1, 1, 1, 0, 1, 0] (endK Tryz.prog 4 K)) .ret [(0, (.slice script0a script0l script0c)), (2, (.bool t2)), (3, (.int .i64 n3)), (4, (.int .i64 i4))] m) = s4_1r C script0a script0l script0c t2 n3 i4 K m := by kernel_rfl
def s4_1x0 (C : CallT) (script0a : Option Addr) (script0l script0c : Nat) (t2 : Bool) (n3 : Int) (i4 : Int) (K : Value → Mem → Prop) (m : Mem) : Prop :=
  K (.bool true) m
theorem e4_1x0 {C : CallT} {kn : Fr → Mem → Prop} {script0a : Option Addr} {script0l script0c : Nat} {t2 : Bool} {n3 : Int} {i4 : Int} {K : Value → Mem → Prop} {m : Mem} : (andThenE kn (kAt (cfgOf Tryz.prog pureF pureT C [(5, [0, 2, 3, 4])] 4) (bodyOf Tryz.prog 4) [1, 1, 1, 0, 1, 0] (endK Tryz.prog 4 K)) (.exit 0) [(0, (.slice script0a script0l script0c)), (2, (.bool t2)), (3, (.int .i64 n3)), (4, (.int .i64 i4))] m) = s4_1x0 C script0a script0l script0c t2 n3 i4 K m := by kernel_rfl
def F4_1 (script0a : Option Addr) (script0l script0c : Nat) (t2 : Bool) (n3 : Int) (i4 : Int) : Fr := [(0, (.slice script0a script0l script0c)), (2, (.bool t2)), (3, (.int .i64 n3)), (4, (.int .i64 i4))]
theorem loop4_1 {C : CallT} {γ : Type} {script0a : Option Addr} {script0l script0c : Nat} {K : Value → Mem → Prop} {m : Mem} (J : γ → Bool → Int → Int → Mem → Prop) (μ : γ → Bool → Int → Int → Nat) (g : γ) {t2 : Bool} {n3 : Int} {i4 : Int} (hJ : J g t2 n3 i4 m)
    (hs : ∀ g t2 n3 i4 m, J g t2 n3 i4 m → s4_1 C script0a script0l script0c t2 n3 i4 (andThenE (fun fr m' => ∃ g' t2' n3' i4', fr = F4_1 script0a script0l script0c t2' n3' i4' ∧ J g' t2' n3' i4' m' ∧ μ g' t2' n3' i4' < μ g t2 n3 i4) (kAt (cfgOf Tryz.prog pureF pureT C [(5, [0, 2, 3, 4])] 4) (bodyOf Tryz.prog 4) [1, 1, 1, 0, 1, 0] (endK Tryz.prog 4 K))) m) :
    loopE [0, 2, 3, 4] (evCode (cfgOf Tryz.prog pureF pureT C [(5, [0, 2, 3, 4])] 4) (codeAt (bodyOf Tryz.prog 4) [1, 1, 1, 0, 1, 0, 0])) (kAt (cfgOf Tryz.prog pureF pureT C [(5, [0, 2, 3, 4])] 4) (bodyOf Tryz.prog 4) [1, 1, 1, 0, 1, 0] (endK Tryz.prog 4 K)) [(0, (.slice script0a script0l script0c)), (2, (.bool t2)), (3, (.int .i64 n3)), (4, (.int .i64 i4))] m := by
  refine loop_rule (σ := γ × Bool × Int × Int) (fun s => F4_1 script0a script0l script0c s.2.1 s.2.2.1 s.2.2.2) (fun s m => J s.1 s.2.1 s.2.2.1 s.2.2.2 m) (fun s => μ s.1 s.2.1 s.2.2.1 s.2.2.2) (g, t2, n3, i4) rfl hJ ?_
  intro s m hJ
  have h := hs s.1 s.2.1 s.2.2.1 s.2.2.2 m hJ
  refine e4_1 ?_
  refine Eq.mp (congrArg (fun B => s4_1 C script0a script0l script0c s.2.1 s.2.2.1 s.2.2.2 (andThenE B (kAt (cfgOf Tryz.prog pureF pureT C [(5, [0, 2, 3, 4])] 4) (bodyOf Tryz.prog 4) [1, 1, 1, 0, 1, 0] (endK Tryz.prog 4 K))) m) ?_) h
  funext fr m'
  apply propext
  constructor
  · rintro ⟨g', t2', n3', i4', h1, h2, h3⟩
    exact ⟨(g', t2', n3', i4'), h1, h2, h3⟩
  · rintro ⟨⟨g', t2', n3', i4'⟩, h1, h2, h3⟩
    exact ⟨g', t2', n3', i4', h1, h2, h3⟩

def s5 (C : CallT) (script0a : Option Addr) (script0l script0c : Nat) (K : Value → Mem → Prop) (m : Mem) : Prop :=
  C 6 [(.slice script0a script0l script0c)] (fun rm_2 m_2 =>
  ∃ x_1a x_1l x_1c, rm_2 = (.slice x_1a x_1l x_1c) ∧
  allocB m_2 (Blk.ofList [(.slice none 0 0), (.slice none 0 0), (.slice none 0 0), (.slice none 0 0)]) fun b_3 m_4 =>
  loopE [0, 2, 3, 4, 5] (evCode (cfgOf Tryz.prog pureF pureT C [(4, [0, 2, 3, 4, 5])] 5) (codeAt (bodyOf Tryz.prog 5) [1, 1, 1, 0, 1, 0, 0])) (kAt (cfgOf Tryz.prog pureF pureT C [(4, [0, 2, 3, 4, 5])] 5) (bodyOf Tryz.prog 5) [1, 1, 1, 0, 1, 0] (endK Tryz.prog 5 K)) [(0, (.slice script0a script0l script0c)), (2, (.int .i64 0)), (3, (.slice x_1a x_1l x_1c)), (4, (ptr b_3 0)), (5, (.int .i64 0))] m_4) m
theorem e5 (C : CallT) (script0a : Option Addr) (script0l script0c : Nat) (K : Value → Mem → Prop) (m : Mem) : evFn Tryz.prog pureF pureT C [(4, [0, 2, 3, 4, 5])] 5 [(.slice script0a script0l script0c)] K m = s5 C script0a script0l script0c K m := by kernel_rfl
theorem call5 {W0 : World} {script0a : Option Addr} {script0l script0c : Nat} {K : Value → Mem → Prop} {m : Mem} (h : s5 (callOK Tryz.prog W0) script0a script0l script0c K m) : callOK Tryz.prog W0 5 [(.slice script0a script0l script0c)] K m :=
  evFn_sound pureOk mixedP (fun w => Tryz.call5 _ w) ((e5 (callOK Tryz.prog W0) script0a script0l script0c K m).symm ▸ h)
def s5_1 (C : CallT) (script0a : Option Addr) (script0l script0c : Nat) (t2 : Int) (t3a : Option Addr) (t3l t3c : Nat) (w4 : Nat) (i5 : Int) (Kt : Exit → Fr → Mem → Prop) (m : Mem) : Prop :=
  ifB (decide (i5 < ((script0l : Nat) : Int)))
  (ckP script0a fun b_5 o_5 =>
  ckI i5 script0l fun j_6 =>
  ldInt .i64 m b_5 (o_5 + (j_6 * 6)) fun x_7 =>
  ldInt .i64 m b_5 ((o_5 + (j_6 * 6)) + 1) fun x_8 =>
  ldInt .i64 m b_5 ((o_5 + (j_6 * 6)) + 2) fun x_9 =>
  ldInt .i64 m b_5 ((o_5 + (j_6 * 6)) + 3) fun x_10 =>
  ldStr m b_5 ((o_5 + (j_6 * 6)) + 4) fun s_11 =>
  ldStr m b_5 ((o_5 + (j_6 * 6)) + 5) fun s_12 =>
  ckP t3a fun b_13 o_13 =>
  ckI i5 t3l fun j_14 =>
  ldInt .i64 m b_13 (o_13 + (j_14 * 10)) fun x_15 =>
  ldInt .i64 m b_13 ((o_13 + (j_14 * 10)) + 1) fun x_16 =>
  ldBool m b_13 ((o_13 + (j_14 * 10)) + 2) fun y_17 =>
  ldSl m b_13 ((o_13 + (j_14 * 10)) + 3) fun l_18a l_18l l_18c =>
  ldStr m b_13 ((o_13 + (j_14 * 10)) + 4) fun s_19 =>
  ldInt .i64 m b_13 ((o_13 + (j_14 * 10)) + 5) fun x_20 =>
  ldInt .i64 m b_13 ((o_13 + (j_14 * 10)) + 6) fun x_21 =>
  ldInt .i64 m b_13 ((o_13 + (j_14 * 10)) + 7) fun x_22 =>
  ldInt .i64 m b_13 ((o_13 + (j_14 * 10)) + 8) fun x_23 =>
  ldInt .i64 m b_13 ((o_13 + (j_14 * 10)) + 9) fun x_24 =>
  C 7 [(ptr w4 0), (.agg #[(.int .i64 x_7), (.int .i64 x_8), (.int .i64 x_9), (.int .i64 x_10), (.string s_11), (.string s_12)]), (.agg #[(.int .i64 x_15), (.int .i64 x_16), (.bool y_17), (.slice l_18a l_18l l_18c), (.string s_19), (.int .i64 x_20), (.int .i64 x_21), (.int .i64 x_22), (.int .i64 x_23), (.int .i64 x_24)])] (fun rm_26 m_26 =>
  ∃ x_25, rm_26 = (.bool x_25) ∧
  ifB (!x_25)
  (Kt .ret [(0, (.slice script0a script0l script0c)), (2, (.int .i64 i5)), (3, (.slice t3a t3l t3c)), (4, (ptr w4 0)), (5, (.int .i64 i5))] m_26)
  (C 8 [(ptr w4 0)] (fun rm_28 m_28 =>
  ∃ x_27, rm_28 = (.bool x_27) ∧
  ifB (!x_27)
  (Kt .ret [(0, (.slice script0a script0l script0c)), (2, (.int .i64 i5)), (3, (.slice t3a t3l t3c)), (4, (ptr w4 0)), (5, (.int .i64 i5))] m_28)
  (Kt .normal [(0, (.slice script0a script0l script0c)), (2, (.int .i64 t2)), (3, (.slice t3a t3l t3c)), (4, (ptr w4 0)), (5, (.int .i64 (IntKind.wrap .i64 (i5 + 1))))] m_28)) m_26)) m)
  (Kt (.exit 0) [(0, (.slice script0a script0l script0c)), (2, (.int .i64 t2)), (3, (.slice t3a t3l t3c)), (4, (ptr w4 0)), (5, (.int .i64 i5))] m)
theorem e5_1 {C : CallT} {script0a : Option Addr} {script0l script0c : Nat} {t2 : Int} {t3a : Option Addr} {t3l t3c : Nat} {w4 : Nat} {i5 : Int} {Kt : Exit → Fr → Mem → Prop} {m : Mem} (h : s5_1 C script0a script0l script0c t2 t3a t3l t3c w4 i5 Kt m) : evCode (cfgOf Tryz.prog pureF pureT C [(4, [0, 2, 3, 4, 5])] 5) (codeAt (bodyOf Tryz.prog 5) [1, 1, 1, 0, 1, 0, 0]) (trimK [0, 2, 3, 4, 5] Kt) [(0, (.slice script0a script0l script0c)), (2, (.int .i64 t2)), (3, (.slice t3a t3l t3c)), (4, (ptr w4 0)), (5, (.int .i64 i5))] m :=
  (show _ = _ by kernel_rfl : evCode (cfgOf Tryz.prog pureF pureT C [(4, [0, 2, 3, 4, 5])] 5) (codeAt (bodyOf Tryz.prog 5) [1, 1, 1, 0, 1, 0, 0]) (trimK [0, 2, 3, 4, 5] Kt) [(0, (.slice script0a script0l script0c)), (2, (.int .i64 t2)), (3, (.slice t3a t3l t3c)), (4, (ptr w4 0)), (5, (.int .i64 i5))] m = s5_1 C script0a script0l script0c t2 t3a t3l t3c w4 i5 Kt m).symm ▸ h
def s5_1r (C : CallT) (script0a : Option Addr) (script0l script0c : Nat) (t2 : Int) (t3a : Option Addr) (t3l t3c : Nat) (w4 : Nat) (i5 : Int) (K : Value → Mem → Prop) (m : Mem) : Prop :=
  K (.int .i64 t2) m
theorem e5_1r {C : CallT} {kn : Fr → Mem → Prop} {script0a : Option Addr} {script0l script0c : Nat} {t2 : Int} {t3a : Option Addr} {t3l t3c : Nat} {w4 : Nat} {i5 : Int} {K : Value → Mem → Prop} {m : Mem} : (andThenE kn (kAt (cfgOf Tryz.prog pureF pureT C [(4, [0, 2, 3, 4, 5])] 5) (bodyOf Tryz.prog 5) [1, 1, 1, 0, 1, 0] (endK Tryz.prog 5 K)) .ret [(0, (.slice script0a script0l script0c)), (2, (.int .i64 t2)), (3, (.slice t3a t3l t3c)), (4, (ptr w4 0)), (5, (.int .i64 i5))] m) = s5_1r C script0a script0l script0c t2 t3a t3l t3c w4 i5 K m := by kernel_rfl
def s5_1x0 (C : CallT) (script0a : Option Addr) (script0l script0c : Nat) (t2 : Int) (t3a : Option Addr) (t3l t3c : Nat) (w4 : Nat) (i5 : Int) (K : Value → Mem → Prop) (m : Mem) : Prop :=
  K (.int .i64 (-1)) m
theorem e5_1x0 {C : CallT} {kn : Fr → Mem → Prop} {script0a : Option Addr} {script0l script0c : Nat} {t2 : Int} {t3a : Option Addr} {t3l t3c : Nat} {w4 : Nat} {i5 : Int} {K : Value → Mem → Prop} {m : Mem} : (andThenE kn (kAt (cfgOf Tryz.prog pureF pureT C [(4, [0, 2, 3, 4, 5])] 5) (bodyOf Tryz.prog 5) [1, 1, 1, 0, 1, 0] (endK Tryz.prog 5 K)) (.exit 0) [(0, (.slice script0a script0l script0c)), (2, (.int .i64 t2)), (3, (.slice t3a t3l t3c)), (4, (ptr w4 0)), (5, (.int .i64 i5))] m) = s5_1x0 C script0a script0l script0c t2 t3a t3l t3c w4 i5 K m := by kernel_rfl
def F5_1 (script0a : Option Addr) (script0l script0c : Nat) (t2 : Int) (t3a : Option Addr) (t3l t3c : Nat) (w4 : Nat) (i5 : Int) : Fr := [(0, (.slice script0a script0l script0c)), (2, (.int .i64 t2)), (3, (.slice t3a t3l t3c)), (4, (ptr w4 0)), (5, (.int .i64 i5))]
theorem loop5_1 {C : CallT} {γ : Type} {script0a : Option Addr} {script0l script0c : Nat} {t3a : Option Addr} {t3l t3c : Nat} {w4 : Nat} {K : Value → Mem → Prop} {m : Mem} (J : γ → Int → Int → Mem → Prop) (μ : γ → Int → Int → Nat) (g : γ) {t2 : Int} {i5 : Int} (hJ : J g t2 i5 m)
    (hs : ∀ g t2 i5 m, J g t2 i5 m → s5_1 C script0a script0l script0c t2 t3a t3l t3c w4 i5 (andThenE (fun fr m' => ∃ g' t2' i5', fr = F5_1 script0a script0l script0c t2' t3a t3l t3c w4 i5' ∧ J g' t2' i5' m' ∧ μ g' t2' i5' < μ g t2 i5) (kAt (cfgOf Tryz.prog pureF pureT C [(4, [0, 2, 3, 4, 5])] 5) (bodyOf Tryz.prog 5) [1, 1, 1, 0, 1, 0] (endK Tryz.prog 5 K))) m) :
    loopE [0, 2, 3, 4, 5] (evCode (cfgOf Tryz.prog pureF pureT C [(4, [0, 2, 3, 4, 5])] 5) (codeAt (bodyOf Tryz.prog 5) [1, 1, 1, 0, 1, 0, 0])) (kAt (cfgOf Tryz.prog pureF pureT C [(4, [0, 2, 3, 4, 5])] 5) (bodyOf Tryz.prog 5) [1, 1, 1, 0, 1, 0] (endK Tryz.prog 5 K)) [(0, (.slice script0a script0l script0c)), (2, (.int .i64 t2)), (3, (.slice t3a t3l t3c)), (4, (ptr w4 0)), (5, (.int .i64 i5))] m := by
  refine loop_rule (σ := γ × Int × Int) (fun s => F5_1 script0a script0l script0c s.2.1 t3a t3l t3c w4 s.2.2) (fun s m => J s.1 s.2.1 s.2.2 m) (fun s => μ s.1 s.2.1 s.2.2) (g, t2, i5) rfl hJ ?_
  intro s m hJ
  have h := hs s.1 s.2.1 s.2.2 m hJ
  refine e5_1 ?_
  refine Eq.mp (congrArg (fun B => s5_1 C script0a script0l script0c s.2.1 t3a t3l t3c w4 s.2.2 (andThenE B (kAt (cfgOf Tryz.prog pureF pureT C [(4, [0, 2, 3, 4, 5])] 5) (bodyOf Tryz.prog 5) [1, 1, 1, 0, 1, 0] (endK Tryz.prog 5 K))) m) ?_) h
  funext fr m'
  apply propext
  constructor
  · rintro ⟨g', t2', i5', h1, h2, h3⟩
    exact ⟨(g', t2', i5'), h1, h2, h3⟩
  · rintro ⟨⟨g', t2', i5'⟩, h1, h2, h3⟩
    exact ⟨g', t2', i5', h1, h2, h3⟩

def s6 (C : CallT) (script0a : Option Addr) (script0l script0c : Nat) (K : Value → Mem → Prop) (m : Mem) : Prop :=
  mkSlice m [(.int .i64 0), (.int .i64 0), (.bool false), (.slice none 0 0), (.string (ByteArray.mk #[])), (.int .i64 0), (.int .i64 0), (.int .i64 0), (.int .i64 0), (.int .i64 0)] 104 ((script0l : Nat) : Int) ((script0l : Nat) : Int) fun b_1 m_2 =>
  loopE [0, 3, 4, 5, 6] (evCode (cfgOf Tryz.prog pureF pureT C [(5, [0, 3, 4, 5, 6])] 6) (codeAt (bodyOf Tryz.prog 6) [1, 1, 1, 1, 0, 1, 0, 0])) (kAt (cfgOf Tryz.prog pureF pureT C [(5, [0, 3, 4, 5, 6])] 6) (bodyOf Tryz.prog 6) [1, 1, 1, 1, 0, 1, 0] (endK Tryz.prog 6 K)) [(0, (.slice script0a script0l script0c)), (3, (.slice none 0 0)), (4, (.slice none 0 0)), (5, (.slice (some ⟨b_1, 0, none⟩) (Int.toNat ((script0l : Nat) : Int)) (Int.toNat ((script0l : Nat) : Int)))), (6, (.int .i64 0))] m_2
theorem e6 (C : CallT) (script0a : Option Addr) (script0l script0c : Nat) (K : Value → Mem → Prop) (m : Mem) : evFn Tryz.prog pureF pureT C [(5, [0, 3, 4, 5, 6])] 6 [(.slice script0a script0l script0c)] K m = s6 C script0a script0l script0c K m := by kernel_rfl
theorem call6 {W0 : World} {script0a : Option Addr} {script0l script0c : Nat} {K : Value → Mem → Prop} {m : Mem} (h : s6 (callOK Tryz.prog W0) script0a script0l script0c K m) : callOK Tryz.prog W0 6 [(.slice script0a script0l script0c)] K m :=
  evFn_sound pureOk mixedP (fun w => Tryz.call6 _ w) ((e6 (callOK Tryz.prog W0) script0a script0l script0c K m).symm ▸ h)
def s6_1 (C : CallT) (script0a : Option Addr) (script0l script0c : Nat) (x3a : Option Addr) (x3l x3c : Nat) (s4a : Option Addr) (s4l s4c : Nat) (out5a : Option Addr) (out5l out5c : Nat) (i6 : Int) (Kt : Exit → Fr → Mem → Prop) (m : Mem) : Prop :=
  ifB (decide (i6 < ((script0l : Nat) : Int)))
  (ckP script0a fun b_3 o_3 =>
  ckI i6 script0l fun j_4 =>
  ldInt .i64 m b_3 (o_3 + (j_4 * 6)) fun x_5 =>
  ldInt .i64 m b_3 ((o_3 + (j_4 * 6)) + 1) fun x_6 =>
  ldInt .i64 m b_3 ((o_3 + (j_4 * 6)) + 2) fun x_7 =>
  ldInt .i64 m b_3 ((o_3 + (j_4 * 6)) + 3) fun x_8 =>
  ldStr m b_3 ((o_3 + (j_4 * 6)) + 4) fun s_9 =>
  ldStr m b_3 ((o_3 + (j_4 * 6)) + 5) fun s_10 =>
  allocB m (zeroBlk Tryz.prog 26) fun b_11 m_12 =>
  stL m_12 b_11 0 [(.int .i64 x_5), (.int .i64 x_6), (.int .i64 x_7), (.int .i64 x_8), (.string s_9), (.string s_10)] fun m_13 =>
  ldInt .i64 m_13 b_11 0 fun x_14 =>
  ifB (x_14 == 1)
  (C 9 [] (fun rm_16 m_16 =>
  ∃ x_15, rm_16 = (.pointer x_15) ∧
  allocB m_16 (Blk.ofList [(.pointer x_15)]) fun b_17 m_18 =>
  rdRow m_18 (some ⟨b_17, 0, none⟩) (1 * 1) fun r_21 =>
  appendC m_18 1 8 [(.pointer none)] x3a x3l x3c 1 r_21 fun a_19 c_19 m_20 =>
  ifB ((((x3l + 1) : Nat) : Int) == 0)
  (Kt .normal [(0, (.slice script0a script0l script0c)), (3, (.slice a_19 (x3l + 1) c_19)), (4, (.slice s4a s4l s4c)), (5, (.slice out5a out5l out5c)), (6, (.int .i64 (IntKind.wrap .i64 (i6 + 1))))] m_20)
  (ldInt .i64 m_20 b_11 1 fun x_22 =>
  C 10 [(.int .i64 x_22), (.int .i64 (((x3l + 1) : Nat) : Int))] (fun rm_24 m_24 =>
  ∃ x_23, rm_24 = (.int .i64 x_23) ∧
  ckP a_19 fun b_25 o_25 =>
  ckI x_23 (x3l + 1) fun j_26 =>
  ldPtr m_24 b_25 (o_25 + j_26) fun p_27 =>
  ldInt .i64 m_24 b_11 0 fun x_28 =>
  ifB (x_28 == 2)
  (ckP p_27 fun b_29 o_29 =>
  ldPtr m_24 b_29 (o_29 + 4) fun p_30 =>
  ldStr m_24 b_11 4 fun s_31 =>
  C 11 [(.pointer p_30), (.string s_31)] (fun rm_39 m_39 =>
  ∃ x_32 x_33 x_34 x_35a x_35l x_35c x_36 x_37 x_38, rm_39 = (.agg #[(.int .i64 x_32), (.int .i64 x_33), (.bool x_34), (.slice x_35a x_35l x_35c), (.string x_36), (.int .i64 x_37), (.int .i64 x_38)]) ∧
  ckP out5a fun b_40 o_40 =>
  ckI i6 out5l fun j_41 =>
  stL m_39 b_40 (o_40 + (j_41 * 10)) [(.int .i64 x_32), (.int .i64 x_33), (.bool x_34), (.slice x_35a x_35l x_35c), (.string x_36), (.int .i64 x_37), (.int .i64 x_38)] fun m_42 =>
  ldStr m_42 b_11 4 fun s_43 =>
  ckP out5a fun b_44 o_44 =>
  ckI i6 out5l fun j_45 =>
  ldStr m_42 b_44 ((o_44 + (j_45 * 10)) + 4) fun s_46 =>
  allocB m_42 (Blk.ofList [(.string s_43), (.string s_46)]) fun b_47 m_48 =>
  rdRow m_48 (some ⟨b_47, 0, none⟩) (1 * 2) fun r_51 =>
  appendC m_48 2 32 [(.string (ByteArray.mk #[])), (.string (ByteArray.mk #[]))] s4a s4l s4c 1 r_51 fun a_49 c_49 m_50 =>
  Kt .normal [(0, (.slice script0a script0l script0c)), (3, (.slice a_19 (x3l + 1) c_19)), (4, (.slice a_49 (s4l + 1) c_49)), (5, (.slice out5a out5l out5c)), (6, (.int .i64 (IntKind.wrap .i64 (i6 + 1))))] m_50) m_24)
  (ifB (x_28 == 3)
  (ckP p_27 fun b_52 o_52 =>
  ldPtr m_24 b_52 (o_52 + 6) fun p_53 =>
  ldStr m_24 b_11 4 fun s_54 =>
  ldStr m_24 b_11 5 fun s_55 =>
  C 12 [(.pointer p_53), (.string s_54), (.string s_55)] (fun rm_59 m_59 =>
  ∃ x_56 x_57 x_58, rm_59 = (.agg #[(.int .i64 x_56), (.int .i64 x_57), (.int .i64 x_58)]) ∧
  ckP out5a fun b_60 o_60 =>
  ckI i6 out5l fun j_61 =>
  stL m_59 b_60 ((o_60 + (j_61 * 10)) + 7) [(.int .i64 x_56), (.int .i64 x_57), (.int .i64 x_58)] fun m_62 =>
  Kt .normal [(0, (.slice script0a script0l script0c)), (3, (.slice a_19 (x3l + 1) c_19)), (4, (.slice s4a s4l s4c)), (5, (.slice out5a out5l out5c)), (6, (.int .i64 (IntKind.wrap .i64 (i6 + 1))))] m_62) m_24)
  (ifB (x_28 == 4)
  (ifB (decide (((s4l : Nat) : Int) > 0))
  (ldInt .i64 m_24 b_11 2 fun x_63 =>
  C 10 [(.int .i64 x_63), (.int .i64 ((s4l : Nat) : Int))] (fun rm_65 m_65 =>
  ∃ x_64, rm_65 = (.int .i64 x_64) ∧
  ckP s4a fun b_66 o_66 =>
  ckI x_64 s4l fun j_67 =>
  ldStr m_65 b_66 (o_66 + (j_67 * 2)) fun s_68 =>
  ldStr m_65 b_66 ((o_66 + (j_67 * 2)) + 1) fun s_69 =>
  allocB m_65 (zeroBlk Tryz.prog 58) fun b_70 m_71 =>
  stL m_71 b_70 0 [(.string s_68), (.string s_69)] fun m_72 =>
  ckP p_27 fun b_73 o_73 =>
  ldStr m_72 b_70 1 fun s_74 =>
  ldInt .i64 m_72 b_11 3 fun x_75 =>
  (ldPtr m_72 b_73 (o_73 + 6) fun p_76 =>
  (ldStr m_72 b_70 0 fun s_77 =>
  C 13 [(.string s_74), (.int .i64 x_75), (.int .i64 1)] (fun rm_79 m_79 =>
  ∃ x_78, rm_79 = (.string x_78) ∧
  C 12 [(.pointer p_76), (.string s_77), (.string x_78)] (fun rm_83 m_83 =>
  ∃ x_80 x_81 x_82, rm_83 = (.agg #[(.int .i64 x_80), (.int .i64 x_81), (.int .i64 x_82)]) ∧
  ckP out5a fun b_84 o_84 =>
  ckI i6 out5l fun j_85 =>
  stL m_83 b_84 ((o_84 + (j_85 * 10)) + 7) [(.int .i64 x_80), (.int .i64 x_81), (.int .i64 x_82)] fun m_86 =>
  Kt .normal [(0, (.slice script0a script0l script0c)), (3, (.slice a_19 (x3l + 1) c_19)), (4, (.slice s4a s4l s4c)), (5, (.slice out5a out5l out5c)), (6, (.int .i64 (IntKind.wrap .i64 (i6 + 1))))] m_86) m_79) m_72) ∧
  (C 13 [(.string s_74), (.int .i64 x_75), (.int .i64 1)] (fun rm_88 m_88 =>
  ∃ x_87, rm_88 = (.string x_87) ∧
  ldStr m_88 b_70 0 fun s_89 =>
  C 12 [(.pointer p_76), (.string s_89), (.string x_87)] (fun rm_93 m_93 =>
  ∃ x_90 x_91 x_92, rm_93 = (.agg #[(.int .i64 x_90), (.int .i64 x_91), (.int .i64 x_92)]) ∧
  ckP out5a fun b_94 o_94 =>
  ckI i6 out5l fun j_95 =>
  stL m_93 b_94 ((o_94 + (j_95 * 10)) + 7) [(.int .i64 x_90), (.int .i64 x_91), (.int .i64 x_92)] fun m_96 =>
  Kt .normal [(0, (.slice script0a script0l script0c)), (3, (.slice a_19 (x3l + 1) c_19)), (4, (.slice s4a s4l s4c)), (5, (.slice out5a out5l out5c)), (6, (.int .i64 (IntKind.wrap .i64 (i6 + 1))))] m_96) m_88) m_72) ∧
  True) ∧
  (ldStr m_72 b_70 0 fun s_97 =>
  (ldPtr m_72 b_73 (o_73 + 6) fun p_98 =>
  C 13 [(.string s_74), (.int .i64 x_75), (.int .i64 1)] (fun rm_100 m_100 =>
  ∃ x_99, rm_100 = (.string x_99) ∧
  C 12 [(.pointer p_98), (.string s_97), (.string x_99)] (fun rm_104 m_104 =>
  ∃ x_101 x_102 x_103, rm_104 = (.agg #[(.int .i64 x_101), (.int .i64 x_102), (.int .i64 x_103)]) ∧
  ckP out5a fun b_105 o_105 =>
  ckI i6 out5l fun j_106 =>
  stL m_104 b_105 ((o_105 + (j_106 * 10)) + 7) [(.int .i64 x_101), (.int .i64 x_102), (.int .i64 x_103)] fun m_107 =>
  Kt .normal [(0, (.slice script0a script0l script0c)), (3, (.slice a_19 (x3l + 1) c_19)), (4, (.slice s4a s4l s4c)), (5, (.slice out5a out5l out5c)), (6, (.int .i64 (IntKind.wrap .i64 (i6 + 1))))] m_107) m_100) m_72) ∧
  (C 13 [(.string s_74), (.int .i64 x_75), (.int .i64 1)] (fun rm_109 m_109 =>
  ∃ x_108, rm_109 = (.string x_108) ∧
  ldPtr m_109 b_73 (o_73 + 6) fun p_110 =>
  C 12 [(.pointer p_110), (.string s_97), (.string x_108)] (fun rm_114 m_114 =>
  ∃ x_111 x_112 x_113, rm_114 = (.agg #[(.int .i64 x_111), (.int .i64 x_112), (.int .i64 x_113)]) ∧
  ckP out5a fun b_115 o_115 =>
  ckI i6 out5l fun j_116 =>
  stL m_114 b_115 ((o_115 + (j_116 * 10)) + 7) [(.int .i64 x_111), (.int .i64 x_112), (.int .i64 x_113)] fun m_117 =>
  Kt .normal [(0, (.slice script0a script0l script0c)), (3, (.slice a_19 (x3l + 1) c_19)), (4, (.slice s4a s4l s4c)), (5, (.slice out5a out5l out5c)), (6, (.int .i64 (IntKind.wrap .i64 (i6 + 1))))] m_117) m_109) m_72) ∧
  True) ∧
  (C 13 [(.string s_74), (.int .i64 x_75), (.int .i64 1)] (fun rm_119 m_119 =>
  ∃ x_118, rm_119 = (.string x_118) ∧
  ldPtr m_119 b_73 (o_73 + 6) fun p_120 =>
  ldStr m_119 b_70 0 fun s_121 =>
  C 12 [(.pointer p_120), (.string s_121), (.string x_118)] (fun rm_125 m_125 =>
  ∃ x_122 x_123 x_124, rm_125 = (.agg #[(.int .i64 x_122), (.int .i64 x_123), (.int .i64 x_124)]) ∧
  ckP out5a fun b_126 o_126 =>
  ckI i6 out5l fun j_127 =>
  stL m_125 b_126 ((o_126 + (j_127 * 10)) + 7) [(.int .i64 x_122), (.int .i64 x_123), (.int .i64 x_124)] fun m_128 =>
  Kt .normal [(0, (.slice script0a script0l script0c)), (3, (.slice a_19 (x3l + 1) c_19)), (4, (.slice s4a s4l s4c)), (5, (.slice out5a out5l out5c)), (6, (.int .i64 (IntKind.wrap .i64 (i6 + 1))))] m_128) m_119) m_72) ∧
  True) m_24)
  (Kt .normal [(0, (.slice script0a script0l script0c)), (3, (.slice a_19 (x3l + 1) c_19)), (4, (.slice s4a s4l s4c)), (5, (.slice out5a out5l out5c)), (6, (.int .i64 (IntKind.wrap .i64 (i6 + 1))))] m_24))
  (Kt .normal [(0, (.slice script0a script0l script0c)), (3, (.slice a_19 (x3l + 1) c_19)), (4, (.slice s4a s4l s4c)), (5, (.slice out5a out5l out5c)), (6, (.int .i64 (IntKind.wrap .i64 (i6 + 1))))] m_24)))) m_20)) m_13)
  (ifB (((x3l : Nat) : Int) == 0)
  (Kt .normal [(0, (.slice script0a script0l script0c)), (3, (.slice x3a x3l x3c)), (4, (.slice s4a s4l s4c)), (5, (.slice out5a out5l out5c)), (6, (.int .i64 (IntKind.wrap .i64 (i6 + 1))))] m_13)
  (ldInt .i64 m_13 b_11 1 fun x_129 =>
  C 10 [(.int .i64 x_129), (.int .i64 ((x3l : Nat) : Int))] (fun rm_131 m_131 =>
  ∃ x_130, rm_131 = (.int .i64 x_130) ∧
  ckP x3a fun b_132 o_132 =>
  ckI x_130 x3l fun j_133 =>
  ldPtr m_131 b_132 (o_132 + j_133) fun p_134 =>
  ldInt .i64 m_131 b_11 0 fun x_135 =>
  ifB (x_135 == 2)
  (ckP p_134 fun b_136 o_136 =>
  ldPtr m_131 b_136 (o_136 + 4) fun p_137 =>
  ldStr m_131 b_11 4 fun s_138 =>
  C 11 [(.pointer p_137), (.string s_138)] (fun rm_146 m_146 =>
  ∃ x_139 x_140 x_141 x_142a x_142l x_142c x_143 x_144 x_145, rm_146 = (.agg #[(.int .i64 x_139), (.int .i64 x_140), (.bool x_141), (.slice x_142a x_142l x_142c), (.string x_143), (.int .i64 x_144), (.int .i64 x_145)]) ∧
  ckP out5a fun b_147 o_147 =>
  ckI i6 out5l fun j_148 =>
  stL m_146 b_147 (o_147 + (j_148 * 10)) [(.int .i64 x_139), (.int .i64 x_140), (.bool x_141), (.slice x_142a x_142l x_142c), (.string x_143), (.int .i64 x_144), (.int .i64 x_145)] fun m_149 =>
  ldStr m_149 b_11 4 fun s_150 =>
  ckP out5a fun b_151 o_151 =>
  ckI i6 out5l fun j_152 =>
  ldStr m_149 b_151 ((o_151 + (j_152 * 10)) + 4) fun s_153 =>
  allocB m_149 (Blk.ofList [(.string s_150), (.string s_153)]) fun b_154 m_155 =>
  rdRow m_155 (some ⟨b_154, 0, none⟩) (1 * 2) fun r_158 =>
  appendC m_155 2 32 [(.string (ByteArray.mk #[])), (.string (ByteArray.mk #[]))] s4a s4l s4c 1 r_158 fun a_156 c_156 m_157 =>
  Kt .normal [(0, (.slice script0a script0l script0c)), (3, (.slice x3a x3l x3c)), (4, (.slice a_156 (s4l + 1) c_156)), (5, (.slice out5a out5l out5c)), (6, (.int .i64 (IntKind.wrap .i64 (i6 + 1))))] m_157) m_131)
  (ifB (x_135 == 3)
  (ckP p_134 fun b_159 o_159 =>
  ldPtr m_131 b_159 (o_159 + 6) fun p_160 =>
  ldStr m_131 b_11 4 fun s_161 =>
  ldStr m_131 b_11 5 fun s_162 =>
  C 12 [(.pointer p_160), (.string s_161), (.string s_162)] (fun rm_166 m_166 =>
  ∃ x_163 x_164 x_165, rm_166 = (.agg #[(.int .i64 x_163), (.int .i64 x_164), (.int .i64 x_165)]) ∧
  ckP out5a fun b_167 o_167 =>
  ckI i6 out5l fun j_168 =>
  stL m_166 b_167 ((o_167 + (j_168 * 10)) + 7) [(.int .i64 x_163), (.int .i64 x_164), (.int .i64 x_165)] fun m_169 =>
  Kt .normal [(0, (.slice script0a script0l script0c)), (3, (.slice x3a x3l x3c)), (4, (.slice s4a s4l s4c)), (5, (.slice out5a out5l out5c)), (6, (.int .i64 (IntKind.wrap .i64 (i6 + 1))))] m_169) m_131)
  (ifB (x_135 == 4)
  (ifB (decide (((s4l : Nat) : Int) > 0))
  (ldInt .i64 m_131 b_11 2 fun x_170 =>
  C 10 [(.int .i64 x_170), (.int .i64 ((s4l : Nat) : Int))] (fun rm_172 m_172 =>
  ∃ x_171, rm_172 = (.int .i64 x_171) ∧
  ckP s4a fun b_173 o_173 =>
  ckI x_171 s4l fun j_174 =>
  ldStr m_172 b_173 (o_173 + (j_174 * 2)) fun s_175 =>
  ldStr m_172 b_173 ((o_173 + (j_174 * 2)) + 1) fun s_176 =>
  allocB m_172 (zeroBlk Tryz.prog 58) fun b_177 m_178 =>
  stL m_178 b_177 0 [(.string s_175), (.string s_176)] fun m_179 =>
  ckP p_134 fun b_180 o_180 =>
  ldStr m_179 b_177 1 fun s_181 =>
  ldInt .i64 m_179 b_11 3 fun x_182 =>
  (ldPtr m_179 b_180 (o_180 + 6) fun p_183 =>
  (ldStr m_179 b_177 0 fun s_184 =>
  C 13 [(.string s_181), (.int .i64 x_182), (.int .i64 1)] (fun rm_186 m_186 =>
  ∃ x_185, rm_186 = (.string x_185) ∧
  C 12 [(.pointer p_183), (.string s_184), (.string x_185)] (fun rm_190 m_190 =>
  ∃ x_187 x_188 x_189, rm_190 = (.agg #[(.int .i64 x_187), (.int .i64 x_188), (.int .i64 x_189)]) ∧
  ckP out5a fun b_191 o_191 =>
  ckI i6 out5l fun j_192 =>
  stL m_190 b_191 ((o_191 + (j_192 * 10)) + 7) [(.int .i64 x_187), (.int .i64 x_188), (.int .i64 x_189)] fun m_193 =>
  Kt .normal [(0, (.slice script0a script0l script0c)), (3, (.slice x3a x3l x3c)), (4, (.slice s4a s4l s4c)), (5, (.slice out5a out5l out5c)), (6, (.int .i64 (IntKind.wrap .i64 (i6 + 1))))] m_193) m_186) m_179) ∧
  (C 13 [(.string s_181), (.int .i64 x_182), (.int .i64 1)] (fun rm_195 m_195 =>
  ∃ x_194, rm_195 = (.string x_194) ∧
  ldStr m_195 b_177 0 fun s_196 =>
  C 12 [(.pointer p_183), (.string s_196), (.string x_194)] (fun rm_200 m_200 =>
  ∃ x_197 x_198 x_199, rm_200 = (.agg #[(.int .i64 x_197), (.int .i64 x_198), (.int .i64 x_199)]) ∧
  ckP out5a fun b_201 o_201 =>
  ckI i6 out5l fun j_202 =>
  stL m_200 b_201 ((o_201 + (j_202 * 10)) + 7) [(.int .i64 x_197), (.int .i64 x_198), (.int .i64 x_199)] fun m_203 =>
  Kt .normal [(0, (.slice script0a script0l script0c)), (3, (.slice x3a x3l x3c)), (4, (.slice s4a s4l s4c)), (5, (.slice out5a out5l out5c)), (6, (.int .i64 (IntKind.wrap .i64 (i6 + 1))))] m_203) m_195) m_179) ∧
  True) ∧
  (ldStr m_179 b_177 0 fun s_204 =>
  (ldPtr m_179 b_180 (o_180 + 6) fun p_205 =>
  C 13 [(.string s_181), (.int .i64 x_182), (.int .i64 1)] (fun rm_207 m_207 =>
  ∃ x_206, rm_207 = (.string x_206) ∧
  C 12 [(.pointer p_205), (.string s_204), (.string x_206)] (fun rm_211 m_211 =>
  ∃ x_208 x_209 x_210, rm_211 = (.agg #[(.int .i64 x_208), (.int .i64 x_209), (.int .i64 x_210)]) ∧
  ckP out5a fun b_212 o_212 =>
  ckI i6 out5l fun j_213 =>
  stL m_211 b_212 ((o_212 + (j_213 * 10)) + 7) [(.int .i64 x_208), (.int .i64 x_209), (.int .i64 x_210)] fun m_214 =>
  Kt .normal [(0, (.slice script0a script0l script0c)), (3, (.slice x3a x3l x3c)), (4, (.slice s4a s4l s4c)), (5, (.slice out5a out5l out5c)), (6, (.int .i64 (IntKind.wrap .i64 (i6 + 1))))] m_214) m_207) m_179) ∧
  (C 13 [(.string s_181), (.int .i64 x_182), (.int .i64 1)] (fun rm_216 m_216 =>
  ∃ x_215, rm_216 = (.string x_215) ∧
  ldPtr m_216 b_180 (o_180 + 6) fun p_217 =>
  C 12 [(.pointer p_217), (.string s_204), (.string x_215)] (fun rm_221 m_221 =>
  ∃ x_218 x_219 x_220, rm_221 = (.agg #[(.int .i64 x_218), (.int .i64 x_219), (.int .i64 x_220)]) ∧
  ckP out5a fun b_222 o_222 =>
  ckI i6 out5l fun j_223 =>
  stL m_221 b_222 ((o_222 + (j_223 * 10)) + 7) [(.int .i64 x_218), (.int .i64 x_219), (.int .i64 x_220)] fun m_224 =>
  Kt .normal [(0, (.slice script0a script0l script0c)), (3, (.slice x3a x3l x3c)), (4, (.slice s4a s4l s4c)), (5, (.slice out5a out5l out5c)), (6, (.int .i64 (IntKind.wrap .i64 (i6 + 1))))] m_224) m_216) m_179) ∧
  True) ∧
  (C 13 [(.string s_181), (.int .i64 x_182), (.int .i64 1)] (fun rm_226 m_226 =>
  ∃ x_225, rm_226 = (.string x_225) ∧
  ldPtr m_226 b_180 (o_180 + 6) fun p_227 =>
  ldStr m_226 b_177 0 fun s_228 =>
  C 12 [(.pointer p_227), (.string s_228), (.string x_225)] (fun rm_232 m_232 =>
  ∃ x_229 x_230 x_231, rm_232 = (.agg #[(.int .i64 x_229), (.int .i64 x_230), (.int .i64 x_231)]) ∧
  ckP out5a fun b_233 o_233 =>
  ckI i6 out5l fun j_234 =>
  stL m_232 b_233 ((o_233 + (j_234 * 10)) + 7) [(.int .i64 x_229), (.int .i64 x_230), (.int .i64 x_231)] fun m_235 =>
  Kt .normal [(0, (.slice script0a script0l script0c)), (3, (.slice x3a x3l x3c)), (4, (.slice s4a s4l s4c)), (5, (.slice out5a out5l out5c)), (6, (.int .i64 (IntKind.wrap .i64 (i6 + 1))))] m_235) m_226) m_179) ∧
  True) m_131)
  (Kt .normal [(0, (.slice script0a script0l script0c)), (3, (.slice x3a x3l x3c)), (4, (.slice s4a s4l s4c)), (5, (.slice out5a out5l out5c)), (6, (.int .i64 (IntKind.wrap .i64 (i6 + 1))))] m_131))
  (Kt .normal [(0, (.slice script0a script0l script0c)), (3, (.slice x3a x3l x3c)), (4, (.slice s4a s4l s4c)), (5, (.slice out5a out5l out5c)), (6, (.int .i64 (IntKind.wrap .i64 (i6 + 1))))] m_131)))) m_13)))
  (Kt (.exit 0) [(0, (.slice script0a script0l script0c)), (3, (.slice x3a x3l x3c)), (4, (.slice s4a s4l s4c)), (5, (.slice out5a out5l out5c)), (6, (.int .i64 i6))] m)
theorem e6_1 {C : CallT} {script0a : Option Addr} {script0l script0c : Nat} {x3a : Option Addr} {x3l x3c : Nat} {s4a : Option Addr} {s4l s4c : Nat} {out5a : Option Addr} {out5l out5c : Nat} {i6 : Int} {Kt : Exit → Fr → Mem → Prop} {m : Mem} (h : s6_1 C script0a script0l script0c x3a x3l x3c s4a s4l s4c out5a out5l out5c i6 Kt m) : evCode (cfgOf Tryz.prog pureF pureT C [(5, [0, 3, 4, 5, 6])] 6) (codeAt (bodyOf Tryz.prog 6) [1, 1, 1, 1, 0, 1, 0, 0]) (trimK [0, 3, 4, 5, 6] Kt) [(0, (.slice script0a script0l script0c)), (3, (.slice x3a x3l x3c)), (4, (.slice s4a s4l s4c)), (5, (.slice out5a out5l out5c)), (6, (.int .i64 i6))] m :=
  (show _ = _ by kernel_rfl : evCode (cfgOf Tryz.prog pureF pureT C [(5, [0, 3, 4, 5, 6])] 6) (codeAt (bodyOf Tryz.prog 6) [1, 1, 1, 1, 0, 1, 0, 0]) (trimK [0, 3, 4, 5, 6] Kt) [(0, (.slice script0a script0l script0c)), (3, (.slice x3a x3l x3c)), (4, (.slice s4a s4l s4c)), (5, (.slice out5a out5l out5c)), (6, (.int .i64 i6))] m = s6_1 C script0a script0l script0c x3a x3l x3c s4a s4l s4c out5a out5l out5c i6 Kt m).symm ▸ h
def s6_1x0 (C : CallT) (script0a : Option Addr) (script0l script0c : Nat) (x3a : Option Addr) (x3l x3c : Nat) (s4a : Option Addr) (s4l s4c : Nat) (out5a : Option Addr) (out5l out5c : Nat) (i6 : Int) (K : Value → Mem → Prop) (m : Mem) : Prop :=
  K (.slice out5a out5l out5c) m
theorem e6_1x0 {C : CallT} {kn : Fr → Mem → Prop} {script0a : Option Addr} {script0l script0c : Nat} {x3a : Option Addr} {x3l x3c : Nat} {s4a : Option Addr} {s4l s4c : Nat} {out5a : Option Addr} {out5l out5c : Nat} {i6 : Int} {K : Value → Mem → Prop} {m : Mem} : (andThenE kn (kAt (cfgOf Tryz.prog pureF pureT C [(5, [0, 3, 4, 5, 6])] 6) (bodyOf Tryz.prog 6) [1, 1, 1, 1, 0, 1, 0] (endK Tryz.prog 6 K)) (.exit 0) [(0, (.slice script0a script0l script0c)), (3, (.slice x3a x3l x3c)), (4, (.slice s4a s4l s4c)), (5, (.slice out5a out5l out5c)), (6, (.int .i64 i6))] m) = s6_1x0 C script0a script0l script0c x3a x3l x3c s4a s4l s4c out5a out5l out5c i6 K m := by kernel_rfl
def F6_1 (script0a : Option Addr) (script0l script0c : Nat) (x3a : Option Addr) (x3l x3c : Nat) (s4a : Option Addr) (s4l s4c : Nat) (out5a : Option Addr) (out5l out5c : Nat) (i6 : Int) : Fr := [(0, (.slice script0a script0l script0c)), (3, (.slice x3a x3l x3c)), (4, (.slice s4a s4l s4c)), (5, (.slice out5a out5l out5c)), (6, (.int .i64 i6))]
theorem loop6_1 {C : CallT} {γ : Type} {script0a : Option Addr} {script0l script0c : Nat} {out5a : Option Addr} {out5l out5c : Nat} {K : Value → Mem → Prop} {m : Mem} (J : γ → Option Addr → Nat → Nat → Option Addr → Nat → Nat → Int → Mem → Prop) (μ : γ → Option Addr → Nat → Nat → Option Addr → Nat → Nat → Int → Nat) (g : γ) {x3a : Option Addr} {x3l x3c : Nat} {s4a : Option Addr} {s4l s4c : Nat} {i6 : Int} (hJ : J g x3a x3l x3c s4a s4l s4c i6 m)
    (hs : ∀ g x3a x3l x3c s4a s4l s4c i6 m, J g x3a x3l x3c s4a s4l s4c i6 m → s6_1 C script0a script0l script0c x3a x3l x3c s4a s4l s4c out5a out5l out5c i6 (andThenE (fun fr m' => ∃ g' x3a' x3l' x3c' s4a' s4l' s4c' i6', fr = F6_1 script0a script0l script0c x3a' x3l' x3c' s4a' s4l' s4c' out5a out5l out5c i6' ∧ J g' x3a' x3l' x3c' s4a' s4l' s4c' i6' m' ∧ μ g' x3a' x3l' x3c' s4a' s4l' s4c' i6' < μ g x3a x3l x3c s4a s4l s4c i6) (kAt (cfgOf Tryz.prog pureF pureT C [(5, [0, 3, 4, 5, 6])] 6) (bodyOf Tryz.prog 6) [1, 1, 1, 1, 0, 1, 0] (endK Tryz.prog 6 K))) m) :
    loopE [0, 3, 4, 5, 6] (evCode (cfgOf Tryz.prog pureF pureT C [(5, [0, 3, 4, 5, 6])] 6) (codeAt (bodyOf Tryz.prog 6) [1, 1, 1, 1, 0, 1, 0, 0])) (kAt (cfgOf Tryz.prog pureF pureT C [(5, [0, 3, 4, 5, 6])] 6) (bodyOf Tryz.prog 6) [1, 1, 1, 1, 0, 1, 0] (endK Tryz.prog 6 K)) [(0, (.slice script0a script0l script0c)), (3, (.slice x3a x3l x3c)), (4, (.slice s4a s4l s4c)), (5, (.slice out5a out5l out5c)), (6, (.int .i64 i6))] m := by
  refine loop_rule (σ := γ × Option Addr × Nat × Nat × Option Addr × Nat × Nat × Int) (fun s => F6_1 script0a script0l script0c s.2.1 s.2.2.1 s.2.2.2.1 s.2.2.2.2.1 s.2.2.2.2.2.1 s.2.2.2.2.2.2.1 out5a out5l out5c s.2.2.2.2.2.2.2) (fun s m => J s.1 s.2.1 s.2.2.1 s.2.2.2.1 s.2.2.2.2.1 s.2.2.2.2.2.1 s.2.2.2.2.2.2.1 s.2.2.2.2.2.2.2 m) (fun s => μ s.1 s.2.1 s.2.2.1 s.2.2.2.1 s.2.2.2.2.1 s.2.2.2.2.2.1 s.2.2.2.2.2.2.1 s.2.2.2.2.2.2.2) (g, x3a, x3l, x3c, s4a, s4l, s4c, i6) rfl hJ ?_
  intro s m hJ
  have h := hs s.1 s.2.1 s.2.2.1 s.2.2.2.1 s.2.2.2.2.1 s.2.2.2.2.2.1 s.2.2.2.2.2.2.1 s.2.2.2.2.2.2.2 m hJ
  refine e6_1 ?_
  refine Eq.mp (congrArg (fun B => s6_1 C script0a script0l script0c s.2.1 s.2.2.1 s.2.2.2.1 s.2.2.2.2.1 s.2.2.2.2.2.1 s.2.2.2.2.2.2.1 out5a out5l out5c s.2.2.2.2.2.2.2 (andThenE B (kAt (cfgOf Tryz.prog pureF pureT C [(5, [0, 3, 4, 5, 6])] 6) (bodyOf Tryz.prog 6) [1, 1, 1, 1, 0, 1, 0] (endK Tryz.prog 6 K))) m) ?_) h
  funext fr m'
  apply propext
  constructor
  · rintro ⟨g', x3a', x3l', x3c', s4a', s4l', s4c', i6', h1, h2, h3⟩
    exact ⟨(g', x3a', x3l', x3c', s4a', s4l', s4c', i6'), h1, h2, h3⟩
  · rintro ⟨⟨g', x3a', x3l', x3c', s4a', s4l', s4c', i6'⟩, h1, h2, h3⟩
    exact ⟨g', x3a', x3l', x3c', s4a', s4l', s4c', i6', h1, h2, h3⟩

def s7 (C : CallT) (w0 : Nat) (o1_0 : Int) (o1_1 : Int) (o1_2 : Int) (o1_3 : Int) (o1_4 : ByteArray) (o1_5 : ByteArray) (t2_0 : Int) (t2_1 : Int) (t2_2 : Bool) (t2_3a : Option Addr) (t2_3l t2_3c : Nat) (t2_4 : ByteArray) (t2_5 : Int) (t2_6 : Int) (t2_7 : Int) (t2_8 : Int) (t2_9 : Int) (K : Value → Mem → Prop) (m : Mem) : Prop :=
  allocB m (Blk.ofList [(.int .i64 o1_0), (.int .i64 o1_1), (.int .i64 o1_2), (.int .i64 o1_3), (.string o1_4), (.string o1_5)]) fun b_1 m_2 =>
  allocB m_2 (Blk.ofList [(.int .i64 t2_0), (.int .i64 t2_1), (.bool t2_2), (.slice t2_3a t2_3l t2_3c), (.string t2_4), (.int .i64 t2_5), (.int .i64 t2_6), (.int .i64 t2_7), (.int .i64 t2_8), (.int .i64 t2_9)]) fun b_3 m_4 =>
  ldInt .i64 m_4 b_1 0 fun x_5 =>
  ifB (x_5 == 1)
  (C 9 [] (fun rm_7 m_7 =>
  ∃ x_6, rm_7 = (.pointer x_6) ∧
  C 9 [] (fun rm_9 m_9 =>
  ∃ x_8, rm_9 = (.pointer x_8) ∧
  ldSl m_9 w0 0 fun l_10a l_10l l_10c =>
  allocB m_9 (Blk.ofList [(.pointer x_6)]) fun b_11 m_12 =>
  rdRow m_12 (some ⟨b_11, 0, none⟩) (1 * 1) fun r_15 =>
  appendC m_12 1 8 [(.pointer none)] l_10a l_10l l_10c 1 r_15 fun a_13 c_13 m_14 =>
  st m_14 w0 0 (.slice a_13 (l_10l + 1) c_13) fun m_16 =>
  ldSl m_16 w0 1 fun l_17a l_17l l_17c =>
  allocB m_16 (Blk.ofList [(.pointer x_8)]) fun b_18 m_19 =>
  rdRow m_19 (some ⟨b_18, 0, none⟩) (1 * 1) fun r_22 =>
  appendC m_19 1 8 [(.pointer none)] l_17a l_17l l_17c 1 r_22 fun a_20 c_20 m_21 =>
  st m_21 w0 1 (.slice a_20 (l_17l + 1) c_20) fun m_23 =>
  K (.bool true) m_23) m_7) m_4)
  (ifB (x_5 == 5)
  (ldSl m_4 w0 2 fun l_24a l_24l l_24c =>
  ifB (decide (((l_24l : Nat) : Int) > 0))
  (ldInt .i64 m_4 b_1 1 fun x_25 =>
  ldSl m_4 w0 2 fun l_26a l_26l l_26c =>
  (ldSl m_4 w0 2 fun l_27a l_27l l_27c =>
  (C 10 [(.int .i64 x_25), (.int .i64 ((l_26l : Nat) : Int))] (fun rm_29 m_29 =>
  ∃ x_28, rm_29 = (.int .i64 x_28) ∧
  ckP l_27a fun b_30 o_30 =>
  ckI x_28 l_27l fun j_31 =>
  ldSl m_29 b_30 (o_30 + (j_31 * 2)) fun l_32a l_32l l_32c =>
  ldSl m_29 b_30 ((o_30 + (j_31 * 2)) + 1) fun l_33a l_33l l_33c =>
  allocB m_29 (zeroBlk Tryz.prog 62) fun b_34 m_35 =>
  stL m_35 b_34 0 [(.slice l_32a l_32l l_32c), (.slice l_33a l_33l l_33c)] fun m_36 =>
  ldSl m_36 b_34 0 fun l_37a l_37l l_37c =>
  ifB (decide (((l_37l : Nat) : Int) > 0))
  (ldInt .i64 m_36 b_1 2 fun x_38 =>
  ldSl m_36 b_34 0 fun l_39a l_39l l_39c =>
  C 10 [(.int .i64 x_38), (.int .i64 ((l_39l : Nat) : Int))] (fun rm_41 m_41 =>
  ∃ x_40, rm_41 = (.int .i64 x_40) ∧
  ldSl m_41 b_34 0 fun l_42a l_42l l_42c =>
  ldInt .i64 m_41 b_1 3 fun x_43 =>
  ckP l_42a fun b_44 o_44 =>
  ckI x_40 l_42l fun j_45 =>
  st m_41 b_44 (o_44 + j_45) (.int .i64 x_43) fun m_46 =>
  ldSl m_46 b_34 1 fun l_47a l_47l l_47c =>
  ldInt .i64 m_46 b_1 3 fun x_48 =>
  ckP l_47a fun b_49 o_49 =>
  ckI x_40 l_47l fun j_50 =>
  st m_46 b_49 (o_49 + j_50) (.int .i64 x_48) fun m_51 =>
  K (.bool true) m_51) m_36)
  (K (.bool true) m_36)) m_4) ∧
  (allocB m_4 (zeroBlk Tryz.prog 62) fun b_52 m_53 =>
  C 10 [(.int .i64 x_25), (.int .i64 ((l_26l : Nat) : Int))] (fun rm_55 m_55 =>
  ∃ x_54, rm_55 = (.int .i64 x_54) ∧
  ckP l_27a fun b_56 o_56 =>
  ckI x_54 l_27l fun j_57 =>
  ldSl m_55 b_56 (o_56 + (j_57 * 2)) fun l_58a l_58l l_58c =>
  ldSl m_55 b_56 ((o_56 + (j_57 * 2)) + 1) fun l_59a l_59l l_59c =>
  stL m_55 b_52 0 [(.slice l_58a l_58l l_58c), (.slice l_59a l_59l l_59c)] fun m_60 =>
  ldSl m_60 b_52 0 fun l_61a l_61l l_61c =>
  ifB (decide (((l_61l : Nat) : Int) > 0))
  (ldInt .i64 m_60 b_1 2 fun x_62 =>
  ldSl m_60 b_52 0 fun l_63a l_63l l_63c =>
  C 10 [(.int .i64 x_62), (.int .i64 ((l_63l : Nat) : Int))] (fun rm_65 m_65 =>
  ∃ x_64, rm_65 = (.int .i64 x_64) ∧
  ldSl m_65 b_52 0 fun l_66a l_66l l_66c =>
  ldInt .i64 m_65 b_1 3 fun x_67 =>
  ckP l_66a fun b_68 o_68 =>
  ckI x_64 l_66l fun j_69 =>
  st m_65 b_68 (o_68 + j_69) (.int .i64 x_67) fun m_70 =>
  ldSl m_70 b_52 1 fun l_71a l_71l l_71c =>
  ldInt .i64 m_70 b_1 3 fun x_72 =>
  ckP l_71a fun b_73 o_73 =>
  ckI x_64 l_71l fun j_74 =>
  st m_70 b_73 (o_73 + j_74) (.int .i64 x_72) fun m_75 =>
  K (.bool true) m_75) m_60)
  (K (.bool true) m_60)) m_53) ∧
  True) ∧
  (C 10 [(.int .i64 x_25), (.int .i64 ((l_26l : Nat) : Int))] (fun rm_77 m_77 =>
  ∃ x_76, rm_77 = (.int .i64 x_76) ∧
  ldSl m_77 w0 2 fun l_78a l_78l l_78c =>
  ckP l_78a fun b_79 o_79 =>
  ckI x_76 l_78l fun j_80 =>
  ldSl m_77 b_79 (o_79 + (j_80 * 2)) fun l_81a l_81l l_81c =>
  ldSl m_77 b_79 ((o_79 + (j_80 * 2)) + 1) fun l_82a l_82l l_82c =>
  allocB m_77 (zeroBlk Tryz.prog 62) fun b_83 m_84 =>
  stL m_84 b_83 0 [(.slice l_81a l_81l l_81c), (.slice l_82a l_82l l_82c)] fun m_85 =>
  ldSl m_85 b_83 0 fun l_86a l_86l l_86c =>
  ifB (decide (((l_86l : Nat) : Int) > 0))
  (ldInt .i64 m_85 b_1 2 fun x_87 =>
  ldSl m_85 b_83 0 fun l_88a l_88l l_88c =>
  C 10 [(.int .i64 x_87), (.int .i64 ((l_88l : Nat) : Int))] (fun rm_90 m_90 =>
  ∃ x_89, rm_90 = (.int .i64 x_89) ∧
  ldSl m_90 b_83 0 fun l_91a l_91l l_91c =>
  ldInt .i64 m_90 b_1 3 fun x_92 =>
  ckP l_91a fun b_93 o_93 =>
  ckI x_89 l_91l fun j_94 =>
  st m_90 b_93 (o_93 + j_94) (.int .i64 x_92) fun m_95 =>
  ldSl m_95 b_83 1 fun l_96a l_96l l_96c =>
  ldInt .i64 m_95 b_1 3 fun x_97 =>
  ckP l_96a fun b_98 o_98 =>
  ckI x_89 l_96l fun j_99 =>
  st m_95 b_98 (o_98 + j_99) (.int .i64 x_97) fun m_100 =>
  K (.bool true) m_100) m_85)
  (K (.bool true) m_85)) m_4) ∧
  (allocB m_4 (zeroBlk Tryz.prog 62) fun b_101 m_102 =>
  (ldSl m_102 w0 2 fun l_103a l_103l l_103c =>
  C 10 [(.int .i64 x_25), (.int .i64 ((l_26l : Nat) : Int))] (fun rm_105 m_105 =>
  ∃ x_104, rm_105 = (.int .i64 x_104) ∧
  ckP l_103a fun b_106 o_106 =>
  ckI x_104 l_103l fun j_107 =>
  ldSl m_105 b_106 (o_106 + (j_107 * 2)) fun l_108a l_108l l_108c =>
  ldSl m_105 b_106 ((o_106 + (j_107 * 2)) + 1) fun l_109a l_109l l_109c =>
  stL m_105 b_101 0 [(.slice l_108a l_108l l_108c), (.slice l_109a l_109l l_109c)] fun m_110 =>
  ldSl m_110 b_101 0 fun l_111a l_111l l_111c =>
  ifB (decide (((l_111l : Nat) : Int) > 0))
  (ldInt .i64 m_110 b_1 2 fun x_112 =>
  ldSl m_110 b_101 0 fun l_113a l_113l l_113c =>
  C 10 [(.int .i64 x_112), (.int .i64 ((l_113l : Nat) : Int))] (fun rm_115 m_115 =>
  ∃ x_114, rm_115 = (.int .i64 x_114) ∧
  ldSl m_115 b_101 0 fun l_116a l_116l l_116c =>
  ldInt .i64 m_115 b_1 3 fun x_117 =>
  ckP l_116a fun b_118 o_118 =>
  ckI x_114 l_116l fun j_119 =>
  st m_115 b_118 (o_118 + j_119) (.int .i64 x_117) fun m_120 =>
  ldSl m_120 b_101 1 fun l_121a l_121l l_121c =>
  ldInt .i64 m_120 b_1 3 fun x_122 =>
  ckP l_121a fun b_123 o_123 =>
  ckI x_114 l_121l fun j_124 =>
  st m_120 b_123 (o_123 + j_124) (.int .i64 x_122) fun m_125 =>
  K (.bool true) m_125) m_110)
  (K (.bool true) m_110)) m_102) ∧
  (C 10 [(.int .i64 x_25), (.int .i64 ((l_26l : Nat) : Int))] (fun rm_127 m_127 =>
  ∃ x_126, rm_127 = (.int .i64 x_126) ∧
  ldSl m_127 w0 2 fun l_128a l_128l l_128c =>
  ckP l_128a fun b_129 o_129 =>
  ckI x_126 l_128l fun j_130 =>
  ldSl m_127 b_129 (o_129 + (j_130 * 2)) fun l_131a l_131l l_131c =>
  ldSl m_127 b_129 ((o_129 + (j_130 * 2)) + 1) fun l_132a l_132l l_132c =>
  stL m_127 b_101 0 [(.slice l_131a l_131l l_131c), (.slice l_132a l_132l l_132c)] fun m_133 =>
  ldSl m_133 b_101 0 fun l_134a l_134l l_134c =>
  ifB (decide (((l_134l : Nat) : Int) > 0))
  (ldInt .i64 m_133 b_1 2 fun x_135 =>
  ldSl m_133 b_101 0 fun l_136a l_136l l_136c =>
  C 10 [(.int .i64 x_135), (.int .i64 ((l_136l : Nat) : Int))] (fun rm_138 m_138 =>
  ∃ x_137, rm_138 = (.int .i64 x_137) ∧
  ldSl m_138 b_101 0 fun l_139a l_139l l_139c =>
  ldInt .i64 m_138 b_1 3 fun x_140 =>
  ckP l_139a fun b_141 o_141 =>
  ckI x_137 l_139l fun j_142 =>
  st m_138 b_141 (o_141 + j_142) (.int .i64 x_140) fun m_143 =>
  ldSl m_143 b_101 1 fun l_144a l_144l l_144c =>
  ldInt .i64 m_143 b_1 3 fun x_145 =>
  ckP l_144a fun b_146 o_146 =>
  ckI x_137 l_144l fun j_147 =>
  st m_143 b_146 (o_146 + j_147) (.int .i64 x_145) fun m_148 =>
  K (.bool true) m_148) m_133)
  (K (.bool true) m_133)) m_102) ∧
  True) ∧
  True)
  (K (.bool true) m_4))
  (ldSl m_4 w0 0 fun l_149a l_149l l_149c =>
  ifB (((l_149l : Nat) : Int) == 0)
  (K (.bool true) m_4)
  (ldInt .i64 m_4 b_1 1 fun x_150 =>
  ldSl m_4 w0 0 fun l_151a l_151l l_151c =>
  C 10 [(.int .i64 x_150), (.int .i64 ((l_151l : Nat) : Int))] (fun rm_153 m_153 =>
  ∃ x_152, rm_153 = (.int .i64 x_152) ∧
  ldSl m_153 w0 0 fun l_154a l_154l l_154c =>
  ckP l_154a fun b_155 o_155 =>
  ckI x_152 l_154l fun j_156 =>
  ldPtr m_153 b_155 (o_155 + j_156) fun p_157 =>
  ldSl m_153 w0 1 fun l_158a l_158l l_158c =>
  ckP l_158a fun b_159 o_159 =>
  ckI x_152 l_158l fun j_160 =>
  ldPtr m_153 b_159 (o_159 + j_160) fun p_161 =>
  ldInt .i64 m_153 b_1 0 fun x_162 =>
  ifB (x_162 == 2)
  (ldStr m_153 b_1 4 fun s_163 =>
  ldInt .i64 m_153 b_3 0 fun x_164 =>
  ldInt .i64 m_153 b_3 1 fun x_165 =>
  ldBool m_153 b_3 2 fun y_166 =>
  ldSl m_153 b_3 3 fun l_167a l_167l l_167c =>
  ldStr m_153 b_3 4 fun s_168 =>
  ldInt .i64 m_153 b_3 5 fun x_169 =>
  ldInt .i64 m_153 b_3 6 fun x_170 =>
  ldInt .i64 m_153 b_3 7 fun x_171 =>
  ldInt .i64 m_153 b_3 8 fun x_172 =>
  ldInt .i64 m_153 b_3 9 fun x_173 =>
  C 14 [(ptr w0 0), (.pointer p_157), (.pointer p_161), (.string s_163), (.agg #[(.int .i64 x_164), (.int .i64 x_165), (.bool y_166), (.slice l_167a l_167l l_167c), (.string s_168), (.int .i64 x_169), (.int .i64 x_170), (.int .i64 x_171), (.int .i64 x_172), (.int .i64 x_173)])] (fun rm_175 m_175 =>
  ∃ x_174, rm_175 = (.bool x_174) ∧
  K (.bool x_174) m_175) m_153)
  (ifB (x_162 == 3)
  (ldStr m_153 b_1 4 fun s_176 =>
  ldStr m_153 b_1 5 fun s_177 =>
  ldInt .i64 m_153 b_3 0 fun x_178 =>
  ldInt .i64 m_153 b_3 1 fun x_179 =>
  ldBool m_153 b_3 2 fun y_180 =>
  ldSl m_153 b_3 3 fun l_181a l_181l l_181c =>
  ldStr m_153 b_3 4 fun s_182 =>
  ldInt .i64 m_153 b_3 5 fun x_183 =>
  ldInt .i64 m_153 b_3 6 fun x_184 =>
  ldInt .i64 m_153 b_3 7 fun x_185 =>
  ldInt .i64 m_153 b_3 8 fun x_186 =>
  ldInt .i64 m_153 b_3 9 fun x_187 =>
  C 15 [(.pointer p_157), (.string s_176), (.string s_177), (.agg #[(.int .i64 x_178), (.int .i64 x_179), (.bool y_180), (.slice l_181a l_181l l_181c), (.string s_182), (.int .i64 x_183), (.int .i64 x_184), (.int .i64 x_185), (.int .i64 x_186), (.int .i64 x_187)])] (fun rm_189 m_189 =>
  ∃ x_188, rm_189 = (.bool x_188) ∧
  ifB x_188
  (ldStr m_189 b_1 4 fun s_190 =>
  ldStr m_189 b_1 5 fun s_191 =>
  ldInt .i64 m_189 b_3 0 fun x_192 =>
  ldInt .i64 m_189 b_3 1 fun x_193 =>
  ldBool m_189 b_3 2 fun y_194 =>
  ldSl m_189 b_3 3 fun l_195a l_195l l_195c =>
  ldStr m_189 b_3 4 fun s_196 =>
  ldInt .i64 m_189 b_3 5 fun x_197 =>
  ldInt .i64 m_189 b_3 6 fun x_198 =>
  ldInt .i64 m_189 b_3 7 fun x_199 =>
  ldInt .i64 m_189 b_3 8 fun x_200 =>
  ldInt .i64 m_189 b_3 9 fun x_201 =>
  C 15 [(.pointer p_161), (.string s_190), (.string s_191), (.agg #[(.int .i64 x_192), (.int .i64 x_193), (.bool y_194), (.slice l_195a l_195l l_195c), (.string s_196), (.int .i64 x_197), (.int .i64 x_198), (.int .i64 x_199), (.int .i64 x_200), (.int .i64 x_201)])] (fun rm_203 m_203 =>
  ∃ x_202, rm_203 = (.bool x_202) ∧
  K (.bool x_202) m_203) m_189)
  (K (.bool false) m_189)) m_153)
  (ifB (x_162 == 4)
  (ldSl m_153 w0 3 fun l_204a l_204l l_204c =>
  ifB (decide (((l_204l : Nat) : Int) > 0))
  (ldInt .i64 m_153 b_1 2 fun x_205 =>
  ldSl m_153 w0 3 fun l_206a l_206l l_206c =>
  (ldSl m_153 w0 3 fun l_207a l_207l l_207c =>
  (C 10 [(.int .i64 x_205), (.int .i64 ((l_206l : Nat) : Int))] (fun rm_209 m_209 =>
  ∃ x_208, rm_209 = (.int .i64 x_208) ∧
  ckP l_207a fun b_210 o_210 =>
  ckI x_208 l_207l fun j_211 =>
  ldStr m_209 b_210 (o_210 + (j_211 * 2)) fun s_212 =>
  ldStr m_209 b_210 ((o_210 + (j_211 * 2)) + 1) fun s_213 =>
  allocB m_209 (zeroBlk Tryz.prog 58) fun b_214 m_215 =>
  stL m_215 b_214 0 [(.string s_212), (.string s_213)] fun m_216 =>
  ldStr m_216 b_214 1 fun s_217 =>
  ldInt .i64 m_216 b_1 3 fun x_218 =>
  C 13 [(.string s_217), (.int .i64 x_218), (.int .i64 1)] (fun rm_220 m_220 =>
  ∃ x_219, rm_220 = (.string x_219) ∧
  ldStr m_220 b_214 0 fun s_221 =>
  ldInt .i64 m_220 b_3 0 fun x_222 =>
  ldInt .i64 m_220 b_3 1 fun x_223 =>
  ldBool m_220 b_3 2 fun y_224 =>
  ldSl m_220 b_3 3 fun l_225a l_225l l_225c =>
  ldStr m_220 b_3 4 fun s_226 =>
  ldInt .i64 m_220 b_3 5 fun x_227 =>
  ldInt .i64 m_220 b_3 6 fun x_228 =>
  ldInt .i64 m_220 b_3 7 fun x_229 =>
  ldInt .i64 m_220 b_3 8 fun x_230 =>
  ldInt .i64 m_220 b_3 9 fun x_231 =>
  C 15 [(.pointer p_157), (.string s_221), (.string x_219), (.agg #[(.int .i64 x_222), (.int .i64 x_223), (.bool y_224), (.slice l_225a l_225l l_225c), (.string s_226), (.int .i64 x_227), (.int .i64 x_228), (.int .i64 x_229), (.int .i64 x_230), (.int .i64 x_231)])] (fun rm_233 m_233 =>
  ∃ x_232, rm_233 = (.bool x_232) ∧
  ifB x_232
  (ldStr m_233 b_214 0 fun s_234 =>
  ldInt .i64 m_233 b_3 0 fun x_235 =>
  ldInt .i64 m_233 b_3 1 fun x_236 =>
  ldBool m_233 b_3 2 fun y_237 =>
  ldSl m_233 b_3 3 fun l_238a l_238l l_238c =>
  ldStr m_233 b_3 4 fun s_239 =>
  ldInt .i64 m_233 b_3 5 fun x_240 =>
  ldInt .i64 m_233 b_3 6 fun x_241 =>
  ldInt .i64 m_233 b_3 7 fun x_242 =>
  ldInt .i64 m_233 b_3 8 fun x_243 =>
  ldInt .i64 m_233 b_3 9 fun x_244 =>
  C 15 [(.pointer p_161), (.string s_234), (.string x_219), (.agg #[(.int .i64 x_235), (.int .i64 x_236), (.bool y_237), (.slice l_238a l_238l l_238c), (.string s_239), (.int .i64 x_240), (.int .i64 x_241), (.int .i64 x_242), (.int .i64 x_243), (.int .i64 x_244)])] (fun rm_246 m_246 =>
  ∃ x_245, rm_246 = (.bool x_245) ∧
  K (.bool x_245) m_246) m_233)
  (K (.bool false) m_233)) m_220) m_216) m_153) ∧
  (allocB m_153 (zeroBlk Tryz.prog 58) fun b_247 m_248 =>
  C 10 [(.int .i64 x_205), (.int .i64 ((l_206l : Nat) : Int))] (fun rm_250 m_250 =>
  ∃ x_249, rm_250 = (.int .i64 x_249) ∧
  ckP l_207a fun b_251 o_251 =>
  ckI x_249 l_207l fun j_252 =>
  ldStr m_250 b_251 (o_251 + (j_252 * 2)) fun s_253 =>
  ldStr m_250 b_251 ((o_251 + (j_252 * 2)) + 1) fun s_254 =>
  stL m_250 b_247 0 [(.string s_253), (.string s_254)] fun m_255 =>
  ldStr m_255 b_247 1 fun s_256 =>
  ldInt .i64 m_255 b_1 3 fun x_257 =>
  C 13 [(.string s_256), (.int .i64 x_257), (.int .i64 1)] (fun rm_259 m_259 =>
  ∃ x_258, rm_259 = (.string x_258) ∧
  ldStr m_259 b_247 0 fun s_260 =>
  ldInt .i64 m_259 b_3 0 fun x_261 =>
  ldInt .i64 m_259 b_3 1 fun x_262 =>
  ldBool m_259 b_3 2 fun y_263 =>
  ldSl m_259 b_3 3 fun l_264a l_264l l_264c =>
  ldStr m_259 b_3 4 fun s_265 =>
  ldInt .i64 m_259 b_3 5 fun x_266 =>
  ldInt .i64 m_259 b_3 6 fun x_267 =>
  ldInt .i64 m_259 b_3 7 fun x_268 =>
  ldInt .i64 m_259 b_3 8 fun x_269 =>
  ldInt .i64 m_259 b_3 9 fun x_270 =>
  C 15 [(.pointer p_157), (.string s_260), (.string x_258), (.agg #[(.int .i64 x_261), (.int .i64 x_262), (.bool y_263), (.slice l_264a l_264l l_264c), (.string s_265), (.int .i64 x_266), (.int .i64 x_267), (.int .i64 x_268), (.int .i64 x_269), (.int .i64 x_270)])] (fun rm_272 m_272 =>
  ∃ x_271, rm_272 = (.bool x_271) ∧
  ifB x_271
  (ldStr m_272 b_247 0 fun s_273 =>
  ldInt .i64 m_272 b_3 0 fun x_274 =>
  ldInt .i64 m_272 b_3 1 fun x_275 =>
  ldBool m_272 b_3 2 fun y_276 =>
  ldSl m_272 b_3 3 fun l_277a l_277l l_277c =>
  ldStr m_272 b_3 4 fun s_278 =>
  ldInt .i64 m_272 b_3 5 fun x_279 =>
  ldInt .i64 m_272 b_3 6 fun x_280 =>
  ldInt .i64 m_272 b_3 7 fun x_281 =>
  ldInt .i64 m_272 b_3 8 fun x_282 =>
  ldInt .i64 m_272 b_3 9 fun x_283 =>
  C 15 [(.pointer p_161), (.string s_273), (.string x_258), (.agg #[(.int .i64 x_274), (.int .i64 x_275), (.bool y_276), (.slice l_277a l_277l l_277c), (.string s_278), (.int .i64 x_279), (.int .i64 x_280), (.int .i64 x_281), (.int .i64 x_282), (.int .i64 x_283)])] (fun rm_285 m_285 =>
  ∃ x_284, rm_285 = (.bool x_284) ∧
  K (.bool x_284) m_285) m_272)
  (K (.bool false) m_272)) m_259) m_255) m_248) ∧
  True) ∧
  (C 10 [(.int .i64 x_205), (.int .i64 ((l_206l : Nat) : Int))] (fun rm_287 m_287 =>
  ∃ x_286, rm_287 = (.int .i64 x_286) ∧
  ldSl m_287 w0 3 fun l_288a l_288l l_288c =>
  ckP l_288a fun b_289 o_289 =>
  ckI x_286 l_288l fun j_290 =>
  ldStr m_287 b_289 (o_289 + (j_290 * 2)) fun s_291 =>
  ldStr m_287 b_289 ((o_289 + (j_290 * 2)) + 1) fun s_292 =>
  allocB m_287 (zeroBlk Tryz.prog 58) fun b_293 m_294 =>
  stL m_294 b_293 0 [(.string s_291), (.string s_292)] fun m_295 =>
  ldStr m_295 b_293 1 fun s_296 =>
  ldInt .i64 m_295 b_1 3 fun x_297 =>
  C 13 [(.string s_296), (.int .i64 x_297), (.int .i64 1)] (fun rm_299 m_299 =>
  ∃ x_298, rm_299 = (.string x_298) ∧
  ldStr m_299 b_293 0 fun s_300 =>
  ldInt .i64 m_299 b_3 0 fun x_301 =>
  ldInt .i64 m_299 b_3 1 fun x_302 =>
  ldBool m_299 b_3 2 fun y_303 =>
  ldSl m_299 b_3 3 fun l_304a l_304l l_304c =>
  ldStr m_299 b_3 4 fun s_305 =>
  ldInt .i64 m_299 b_3 5 fun x_306 =>
  ldInt .i64 m_299 b_3 6 fun x_307 =>
  ldInt .i64 m_299 b_3 7 fun x_308 =>
  ldInt .i64 m_299 b_3 8 fun x_309 =>
  ldInt .i64 m_299 b_3 9 fun x_310 =>
  C 15 [(.pointer p_157), (.string s_300), (.string x_298), (.agg #[(.int .i64 x_301), (.int .i64 x_302), (.bool y_303), (.slice l_304a l_304l l_304c), (.string s_305), (.int .i64 x_306), (.int .i64 x_307), (.int .i64 x_308), (.int .i64 x_309), (.int .i64 x_310)])] (fun rm_312 m_312 =>
  ∃ x_311, rm_312 = (.bool x_311) ∧
  ifB x_311
  (ldStr m_312 b_293 0 fun s_313 =>
  ldInt .i64 m_312 b_3 0 fun x_314 =>
  ldInt .i64 m_312 b_3 1 fun x_315 =>
  ldBool m_312 b_3 2 fun y_316 =>
  ldSl m_312 b_3 3 fun l_317a l_317l l_317c =>
  ldStr m_312 b_3 4 fun s_318 =>
  ldInt .i64 m_312 b_3 5 fun x_319 =>
  ldInt .i64 m_312 b_3 6 fun x_320 =>
  ldInt .i64 m_312 b_3 7 fun x_321 =>
  ldInt .i64 m_312 b_3 8 fun x_322 =>
  ldInt .i64 m_312 b_3 9 fun x_323 =>
  C 15 [(.pointer p_161), (.string s_313), (.string x_298), (.agg #[(.int .i64 x_314), (.int .i64 x_315), (.bool y_316), (.slice l_317a l_317l l_317c), (.string s_318), (.int .i64 x_319), (.int .i64 x_320), (.int .i64 x_321), (.int .i64 x_322), (.int .i64 x_323)])] (fun rm_325 m_325 =>
  ∃ x_324, rm_325 = (.bool x_324) ∧
  K (.bool x_324) m_325) m_312)
  (K (.bool false) m_312)) m_299) m_295) m_153) ∧
  (allocB m_153 (zeroBlk Tryz.prog 58) fun b_326 m_327 =>
  (ldSl m_327 w0 3 fun l_328a l_328l l_328c =>
  C 10 [(.int .i64 x_205), (.int .i64 ((l_206l : Nat) : Int))] (fun rm_330 m_330 =>
  ∃ x_329, rm_330 = (.int .i64 x_329) ∧
  ckP l_328a fun b_331 o_331 =>
  ckI x_329 l_328l fun j_332 =>
  ldStr m_330 b_331 (o_331 + (j_332 * 2)) fun s_333 =>
  ldStr m_330 b_331 ((o_331 + (j_332 * 2)) + 1) fun s_334 =>
  stL m_330 b_326 0 [(.string s_333), (.string s_334)] fun m_335 =>
  ldStr m_335 b_326 1 fun s_336 =>
  ldInt .i64 m_335 b_1 3 fun x_337 =>
  C 13 [(.string s_336), (.int .i64 x_337), (.int .i64 1)] (fun rm_339 m_339 =>
  ∃ x_338, rm_339 = (.string x_338) ∧
  ldStr m_339 b_326 0 fun s_340 =>
  ldInt .i64 m_339 b_3 0 fun x_341 =>
  ldInt .i64 m_339 b_3 1 fun x_342 =>
  ldBool m_339 b_3 2 fun y_343 =>
  ldSl m_339 b_3 3 fun l_344a l_344l l_344c =>
  ldStr m_339 b_3 4 fun s_345 =>
  ldInt .i64 m_339 b_3 5 fun x_346 =>
  ldInt .i64 m_339 b_3 6 fun x_347 =>
  ldInt .i64 m_339 b_3 7 fun x_348 =>
  ldInt .i64 m_339 b_3 8 fun x_349 =>
  ldInt .i64 m_339 b_3 9 fun x_350 =>
  C 15 [(.pointer p_157), (.string s_340), (.string x_338), (.agg #[(.int .i64 x_341), (.int .i64 x_342), (.bool y_343), (.slice l_344a l_344l l_344c), (.string s_345), (.int .i64 x_346), (.int .i64 x_347), (.int .i64 x_348), (.int .i64 x_349), (.int .i64 x_350)])] (fun rm_352 m_352 =>
  ∃ x_351, rm_352 = (.bool x_351) ∧
  ifB x_351
  (ldStr m_352 b_326 0 fun s_353 =>
  ldInt .i64 m_352 b_3 0 fun x_354 =>
  ldInt .i64 m_352 b_3 1 fun x_355 =>
  ldBool m_352 b_3 2 fun y_356 =>
  ldSl m_352 b_3 3 fun l_357a l_357l l_357c =>
  ldStr m_352 b_3 4 fun s_358 =>
  ldInt .i64 m_352 b_3 5 fun x_359 =>
  ldInt .i64 m_352 b_3 6 fun x_360 =>
  ldInt .i64 m_352 b_3 7 fun x_361 =>
  ldInt .i64 m_352 b_3 8 fun x_362 =>
  ldInt .i64 m_352 b_3 9 fun x_363 =>
  C 15 [(.pointer p_161), (.string s_353), (.string x_338), (.agg #[(.int .i64 x_354), (.int .i64 x_355), (.bool y_356), (.slice l_357a l_357l l_357c), (.string s_358), (.int .i64 x_359), (.int .i64 x_360), (.int .i64 x_361), (.int .i64 x_362), (.int .i64 x_363)])] (fun rm_365 m_365 =>
  ∃ x_364, rm_365 = (.bool x_364) ∧
  K (.bool x_364) m_365) m_352)
  (K (.bool false) m_352)) m_339) m_335) m_327) ∧
  (C 10 [(.int .i64 x_205), (.int .i64 ((l_206l : Nat) : Int))] (fun rm_367 m_367 =>
  ∃ x_366, rm_367 = (.int .i64 x_366) ∧
  ldSl m_367 w0 3 fun l_368a l_368l l_368c =>
  ckP l_368a fun b_369 o_369 =>
  ckI x_366 l_368l fun j_370 =>
  ldStr m_367 b_369 (o_369 + (j_370 * 2)) fun s_371 =>
  ldStr m_367 b_369 ((o_369 + (j_370 * 2)) + 1) fun s_372 =>
  stL m_367 b_326 0 [(.string s_371), (.string s_372)] fun m_373 =>
  ldStr m_373 b_326 1 fun s_374 =>
  ldInt .i64 m_373 b_1 3 fun x_375 =>
  C 13 [(.string s_374), (.int .i64 x_375), (.int .i64 1)] (fun rm_377 m_377 =>
  ∃ x_376, rm_377 = (.string x_376) ∧
  ldStr m_377 b_326 0 fun s_378 =>
  ldInt .i64 m_377 b_3 0 fun x_379 =>
  ldInt .i64 m_377 b_3 1 fun x_380 =>
  ldBool m_377 b_3 2 fun y_381 =>
  ldSl m_377 b_3 3 fun l_382a l_382l l_382c =>
  ldStr m_377 b_3 4 fun s_383 =>
  ldInt .i64 m_377 b_3 5 fun x_384 =>
  ldInt .i64 m_377 b_3 6 fun x_385 =>
  ldInt .i64 m_377 b_3 7 fun x_386 =>
  ldInt .i64 m_377 b_3 8 fun x_387 =>
  ldInt .i64 m_377 b_3 9 fun x_388 =>
  C 15 [(.pointer p_157), (.string s_378), (.string x_376), (.agg #[(.int .i64 x_379), (.int .i64 x_380), (.bool y_381), (.slice l_382a l_382l l_382c), (.string s_383), (.int .i64 x_384), (.int .i64 x_385), (.int .i64 x_386), (.int .i64 x_387), (.int .i64 x_388)])] (fun rm_390 m_390 =>
  ∃ x_389, rm_390 = (.bool x_389) ∧
  ifB x_389
  (ldStr m_390 b_326 0 fun s_391 =>
  ldInt .i64 m_390 b_3 0 fun x_392 =>
  ldInt .i64 m_390 b_3 1 fun x_393 =>
  ldBool m_390 b_3 2 fun y_394 =>
  ldSl m_390 b_3 3 fun l_395a l_395l l_395c =>
  ldStr m_390 b_3 4 fun s_396 =>
  ldInt .i64 m_390 b_3 5 fun x_397 =>
  ldInt .i64 m_390 b_3 6 fun x_398 =>
  ldInt .i64 m_390 b_3 7 fun x_399 =>
  ldInt .i64 m_390 b_3 8 fun x_400 =>
  ldInt .i64 m_390 b_3 9 fun x_401 =>
  C 15 [(.pointer p_161), (.string s_391), (.string x_376), (.agg #[(.int .i64 x_392), (.int .i64 x_393), (.bool y_394), (.slice l_395a l_395l l_395c), (.string s_396), (.int .i64 x_397), (.int .i64 x_398), (.int .i64 x_399), (.int .i64 x_400), (.int .i64 x_401)])] (fun rm_403 m_403 =>
  ∃ x_402, rm_403 = (.bool x_402) ∧
  K (.bool x_402) m_403) m_390)
  (K (.bool false) m_390)) m_377) m_373) m_327) ∧
  True) ∧
  True)
  (K (.bool true) m_153))
  (ifB (x_162 == 6)
  (ckP p_157 fun b_404 o_404 =>
  ldPtr m_153 b_404 (o_404 + 4) fun p_405 =>
  C 16 [(.pointer p_405)] (fun rm_407 m_407 =>
  ∃ x_406, rm_407 = (.bool x_406) ∧
  ifB x_406
  (ckP p_161 fun b_408 o_408 =>
  ldPtr m_407 b_408 (o_408 + 4) fun p_409 =>
  C 16 [(.pointer p_409)] (fun rm_411 m_411 =>
  ∃ x_410, rm_411 = (.bool x_410) ∧
  K (.bool x_410) m_411) m_407)
  (K (.bool false) m_407)) m_153)
  (ifB (x_162 == 7)
  (ckP p_157 fun b_412 o_412 =>
  ldPtr m_153 b_412 (o_412 + 6) fun p_413 =>
  C 17 [(.pointer p_413)] (fun rm_415 m_415 =>
  ∃ x_414, rm_415 = (.bool x_414) ∧
  ifB x_414
  (ckP p_161 fun b_416 o_416 =>
  ldPtr m_415 b_416 (o_416 + 6) fun p_417 =>
  C 17 [(.pointer p_417)] (fun rm_419 m_419 =>
  ∃ x_418, rm_419 = (.bool x_418) ∧
  K (.bool x_418) m_419) m_415)
  (K (.bool false) m_415)) m_153)
  (K (.bool true) m_153)))))) m_4)))
theorem e7 (C : CallT) (w0 : Nat) (o1_0 : Int) (o1_1 : Int) (o1_2 : Int) (o1_3 : Int) (o1_4 : ByteArray) (o1_5 : ByteArray) (t2_0 : Int) (t2_1 : Int) (t2_2 : Bool) (t2_3a : Option Addr) (t2_3l t2_3c : Nat) (t2_4 : ByteArray) (t2_5 : Int) (t2_6 : Int) (t2_7 : Int) (t2_8 : Int) (t2_9 : Int) (K : Value → Mem → Prop) (m : Mem) : evFn Tryz.prog pureF pureT C [] 7 [(ptr w0 0), (.agg #[(.int .i64 o1_0), (.int .i64 o1_1), (.int .i64 o1_2), (.int .i64 o1_3), (.string o1_4), (.string o1_5)]), (.agg #[(.int .i64 t2_0), (.int .i64 t2_1), (.bool t2_2), (.slice t2_3a t2_3l t2_3c), (.string t2_4), (.int .i64 t2_5), (.int .i64 t2_6), (.int .i64 t2_7), (.int .i64 t2_8), (.int .i64 t2_9)])] K m = s7 C w0 o1_0 o1_1 o1_2 o1_3 o1_4 o1_5 t2_0 t2_1 t2_2 t2_3a t2_3l t2_3c t2_4 t2_5 t2_6 t2_7 t2_8 t2_9 K m := by kernel_rfl
theorem call7 {W0 : World} {w0 : Nat} {o1_0 : Int} {o1_1 : Int} {o1_2 : Int} {o1_3 : Int} {o1_4 : ByteArray} {o1_5 : ByteArray} {t2_0 : Int} {t2_1 : Int} {t2_2 : Bool} {t2_3a : Option Addr} {t2_3l t2_3c : Nat} {t2_4 : ByteArray} {t2_5 : Int} {t2_6 : Int} {t2_7 : Int} {t2_8 : Int} {t2_9 : Int} {K : Value → Mem → Prop} {m : Mem} (h : s7 (callOK Tryz.prog W0) w0 o1_0 o1_1 o1_2 o1_3 o1_4 o1_5 t2_0 t2_1 t2_2 t2_3a t2_3l t2_3c t2_4 t2_5 t2_6 t2_7 t2_8 t2_9 K m) : callOK Tryz.prog W0 7 [(ptr w0 0), (.agg #[(.int .i64 o1_0), (.int .i64 o1_1), (.int .i64 o1_2), (.int .i64 o1_3), (.string o1_4), (.string o1_5)]), (.agg #[(.int .i64 t2_0), (.int .i64 t2_1), (.bool t2_2), (.slice t2_3a t2_3l t2_3c), (.string t2_4), (.int .i64 t2_5), (.int .i64 t2_6), (.int .i64 t2_7), (.int .i64 t2_8), (.int .i64 t2_9)])] K m :=
  evFn_sound pureOk mixedP (fun w => Tryz.call7 _ w) ((e7 (callOK Tryz.prog W0) w0 o1_0 o1_1 o1_2 o1_3 o1_4 o1_5 t2_0 t2_1 t2_2 t2_3a t2_3l t2_3c t2_4 t2_5 t2_6 t2_7 t2_8 t2_9 K m).symm ▸ h)

def s8 (C : CallT) (w0 : Nat) (K : Value → Mem → Prop) (m : Mem) : Prop :=
  loopE [0, 2, 3] (evCode (cfgOf Tryz.prog pureF pureT C [(2, [0, 2, 3])] 8) (codeAt (bodyOf Tryz.prog 8) [1, 0, 1, 0, 0])) (kAt (cfgOf Tryz.prog pureF pureT C [(2, [0, 2, 3])] 8) (bodyOf Tryz.prog 8) [1, 0, 1, 0] (endK Tryz.prog 8 K)) [(0, (ptr w0 0)), (2, (.bool false)), (3, (.int .i64 0))] m
theorem e8 (C : CallT) (w0 : Nat) (K : Value → Mem → Prop) (m : Mem) : evFn Tryz.prog pureF pureT C [(2, [0, 2, 3])] 8 [(ptr w0 0)] K m = s8 C w0 K m := by kernel_rfl
theorem call8 {W0 : World} {w0 : Nat} {K : Value → Mem → Prop} {m : Mem} (h : s8 (callOK Tryz.prog W0) w0 K m) : callOK Tryz.prog W0 8 [(ptr w0 0)] K m :=
  evFn_sound pureOk mixedP (fun w => Tryz.call8 _ w) ((e8 (callOK Tryz.prog W0) w0 K m).symm ▸ h)
def s8_1 (C : CallT) (w0 : Nat) (t2 : Bool) (i3 : Int) (Kt : Exit → Fr → Mem → Prop) (m : Mem) : Prop :=
  ldSl m w0 2 fun l_1a l_1l l_1c =>
  ifB (decide (i3 < ((l_1l : Nat) : Int)))
  (ldSl m w0 2 fun l_2a l_2l l_2c =>
  ckP l_2a fun b_3 o_3 =>
  ckI i3 l_2l fun j_4 =>
  ldSl m b_3 (o_3 + (j_4 * 2)) fun l_5a l_5l l_5c =>
  ldSl m w0 2 fun l_6a l_6l l_6c =>
  ckP l_6a fun b_7 o_7 =>
  ckI i3 l_6l fun j_8 =>
  ldSl m b_7 ((o_7 + (j_8 * 2)) + 1) fun l_9a l_9l l_9c =>
  C 18 [(.slice l_5a l_5l l_5c), (.slice l_9a l_9l l_9c)] (fun rm_11 m_11 =>
  ∃ x_10, rm_11 = (.bool x_10) ∧
  ifB (!x_10)
  (Kt .ret [(0, (ptr w0 0)), (2, (.bool false)), (3, (.int .i64 i3))] m_11)
  (Kt .normal [(0, (ptr w0 0)), (2, (.bool t2)), (3, (.int .i64 (IntKind.wrap .i64 (i3 + 1))))] m_11)) m)
  (Kt (.exit 0) [(0, (ptr w0 0)), (2, (.bool t2)), (3, (.int .i64 i3))] m)
theorem e8_1 {C : CallT} {w0 : Nat} {t2 : Bool} {i3 : Int} {Kt : Exit → Fr → Mem → Prop} {m : Mem} (h : s8_1 C w0 t2 i3 Kt m) : evCode (cfgOf Tryz.prog pureF pureT C [(2, [0, 2, 3])] 8) (codeAt (bodyOf Tryz.prog 8) [1, 0, 1, 0, 0]) (trimK [0, 2, 3] Kt) [(0, (ptr w0 0)), (2, (.bool t2)), (3, (.int .i64 i3))] m :=
  (show _ = _ by kernel_rfl : evCode (cfgOf Tryz.prog pureF pureT C [(2, [0, 2, 3])] 8) (codeAt (bodyOf Tryz.prog 8) [1, 0, 1, 0, 0]) (trimK [0, 2, 3] Kt) [(0, (ptr w0 0)), (2, (.bool t2)), (3, (.int .i64 i3))] m = s8_1 C w0 t2 i3 Kt m).symm ▸ h
def s8_1r (C : CallT) (w0 : Nat) (t2 : Bool) (i3 : Int) (K : Value → Mem → Prop) (m : Mem) : Prop :=
  K (.bool t2) m
theorem e8_1r {C : CallT} {kn : Fr → Mem → Prop} {w0 : Nat} {t2 : Bool} {i3 : Int} {K : Value → Mem → Prop} {m : Mem} : (andThenE kn (kAt (cfgOf Tryz.prog pureF pureT C [(2, [0, 2, 3])] 8) (bodyOf Tryz.prog 8) [1, 0, 1, 0] (endK Tryz.prog 8 K)) .ret [(0, (ptr w0 0)), (2, (.bool t2)), (3, (.int .i64 i3))] m) = s8_1r C w0 t2 i3 K m := by kernel_rfl
def s8_1x0 (C : CallT) (w0 : Nat) (t2 : Bool) (i3 : Int) (K : Value → Mem → Prop) (m : Mem) : Prop :=
  K (.bool true) m
theorem e8_1x0 {C : CallT} {kn : Fr → Mem → Prop} {w0 : Nat} {t2 : Bool} {i3 : Int} {K : Value → Mem → Prop} {m : Mem} : (andThenE kn (kAt (cfgOf Tryz.prog pureF pureT C [(2, [0, 2, 3])] 8) (bodyOf Tryz.prog 8) [1, 0, 1, 0] (endK Tryz.prog 8 K)) (.exit 0) [(0, (ptr w0 0)), (2, (.bool t2)), (3, (.int .i64 i3))] m) = s8_1x0 C w0 t2 i3 K m := by kernel_rfl
def F8_1 (w0 : Nat) (t2 : Bool) (i3 : Int) : Fr := [(0, (ptr w0 0)), (2, (.bool t2)), (3, (.int .i64 i3))]
theorem loop8_1 {C : CallT} {γ : Type} {w0 : Nat} {K : Value → Mem → Prop} {m : Mem} (J : γ → Bool → Int → Mem → Prop) (μ : γ → Bool → Int → Nat) (g : γ) {t2 : Bool} {i3 : Int} (hJ : J g t2 i3 m)
    (hs : ∀ g t2 i3 m, J g t2 i3 m → s8_1 C w0 t2 i3 (andThenE (fun fr m' => ∃ g' t2' i3', fr = F8_1 w0 t2' i3' ∧ J g' t2' i3' m' ∧ μ g' t2' i3' < μ g t2 i3) (kAt (cfgOf Tryz.prog pureF pureT C [(2, [0, 2, 3])] 8) (bodyOf Tryz.prog 8) [1, 0, 1, 0] (endK Tryz.prog 8 K))) m) :
    loopE [0, 2, 3] (evCode (cfgOf Tryz.prog pureF pureT C [(2, [0, 2, 3])] 8) (codeAt (bodyOf Tryz.prog 8) [1, 0, 1, 0, 0])) (kAt (cfgOf Tryz.prog pureF pureT C [(2, [0, 2, 3])] 8) (bodyOf Tryz.prog 8) [1, 0, 1, 0] (endK Tryz.prog 8 K)) [(0, (ptr w0 0)), (2, (.bool t2)), (3, (.int .i64 i3))] m := by
  refine loop_rule (σ := γ × Bool × Int) (fun s => F8_1 w0 s.2.1 s.2.2) (fun s m => J s.1 s.2.1 s.2.2 m) (fun s => μ s.1 s.2.1 s.2.2) (g, t2, i3) rfl hJ ?_
  intro s m hJ
  have h := hs s.1 s.2.1 s.2.2 m hJ
  refine e8_1 ?_
  refine Eq.mp (congrArg (fun B => s8_1 C w0 s.2.1 s.2.2 (andThenE B (kAt (cfgOf Tryz.prog pureF pureT C [(2, [0, 2, 3])] 8) (bodyOf Tryz.prog 8) [1, 0, 1, 0] (endK Tryz.prog 8 K))) m) ?_) h
  funext fr m'
  apply propext
  constructor
  · rintro ⟨g', t2', i3', h1, h2, h3⟩
    exact ⟨(g', t2', i3'), h1, h2, h3⟩
  · rintro ⟨⟨g', t2', i3'⟩, h1, h2, h3⟩
    exact ⟨g', t2', i3', h1, h2, h3⟩

def s9 (C : CallT)  (K : Value → Mem → Prop) (m : Mem) : Prop :=
  C 19 [] (fun rm_2 m_2 =>
  ∃ x_1, rm_2 = (.pointer x_1) ∧
  C 20 [] (fun rm_4 m_4 =>
  ∃ x_3, rm_4 = (.pointer x_3) ∧
  C 21 [(.pointer x_3)] (fun rm_6 m_6 =>
  ∃ x_5, rm_6 = (.pointer x_5) ∧
  C 22 [(.pointer x_3), (.pointer x_5)] (fun rm_8 m_8 =>
  ∃ x_7, rm_8 = (.pointer x_7) ∧
  C 23 [(.pointer x_1), (.pointer x_3), (.pointer x_5), (.pointer x_7)] (fun rm_10 m_10 =>
  ∃ x_9, rm_10 = (.pointer x_9) ∧
  C 19 [] (fun rm_12 m_12 =>
  ∃ x_11, rm_12 = (.pointer x_11) ∧
  C 24 [(.pointer x_11)] (fun rm_14 m_14 =>
  ∃ x_13, rm_14 = (.pointer x_13) ∧
  allocB m_14 (Blk.ofList [(.pointer x_1), (.pointer x_3), (.pointer x_5), (.pointer x_7), (.pointer x_9), (.pointer x_11), (.pointer x_13)]) fun b_15 m_16 =>
  K (ptr b_15 0) m_16) m_12) m_10) m_8) m_6) m_4) m_2) m
theorem e9 (C : CallT)  (K : Value → Mem → Prop) (m : Mem) : evFn Tryz.prog pureF pureT C [] 9 [] K m = s9 C  K m := by kernel_rfl
theorem call9 {W0 : World}  {K : Value → Mem → Prop} {m : Mem} (h : s9 (callOK Tryz.prog W0)  K m) : callOK Tryz.prog W0 9 [] K m :=
  evFn_sound pureOk mixedP (fun w => Tryz.call9 _ w) ((e9 (callOK Tryz.prog W0)  K m).symm ▸ h)

def s10 (C : CallT) (c0 : Int) (n1 : Int) (K : Value → Mem → Prop) (m : Mem) : Prop :=
  ifB (decide (c0 < 0))
  ((n1 : Int) ≠ 0 ∧
  K (.int .i64 (Int.tmod (IntKind.wrap .i64 (0 - (IntKind.wrap .i64 (c0 + 1)))) n1)) m)
  ((n1 : Int) ≠ 0 ∧
  K (.int .i64 (Int.tmod c0 n1)) m)
theorem e10 (C : CallT) (c0 : Int) (n1 : Int) (K : Value → Mem → Prop) (m : Mem) : evFn Tryz.prog pureF pureT C [] 10 [(.int .i64 c0), (.int .i64 n1)] K m = s10 C c0 n1 K m := by kernel_rfl
theorem call10 {W0 : World} {c0 : Int} {n1 : Int} {K : Value → Mem → Prop} {m : Mem} (h : s10 (callOK Tryz.prog W0) c0 n1 K m) : callOK Tryz.prog W0 10 [(.int .i64 c0), (.int .i64 n1)] K m :=
  evFn_sound pureOk mixedP (fun w => Tryz.call10 _ w) ((e10 (callOK Tryz.prog W0) c0 n1 K m).symm ▸ h)

def s11 (C : CallT) (s0 : Nat) (text1 : ByteArray) (K : Value → Mem → Prop) (m : Mem) : Prop :=
  allocB m (zeroBlk Tryz.prog 39) fun b_1 m_2 =>
  ldPtr m_2 s0 0 fun p_3 =>
  C 25 [(.pointer p_3), (.string text1)] (fun rm_7 m_7 =>
  ∃ x_4 x_5 x_6a x_6l x_6c, rm_7 = (.agg #[(.int .i64 x_4), (.int .i64 x_5), (.slice x_6a x_6l x_6c)]) ∧
  allocB m_7 (zeroBlk Tryz.prog 73) fun b_8 m_9 =>
  stL m_9 b_8 0 [(.int .i64 x_4), (.int .i64 x_5), (.slice x_6a x_6l x_6c)] fun m_10 =>
  ldInt .i64 m_10 b_8 0 fun x_11 =>
  ifB (x_11 != 0)
  (ldInt .i64 m_10 b_8 0 fun x_12 =>
  ldInt .i64 m_10 b_8 1 fun x_13 =>
  stL m_10 b_1 0 [(.int .i64 x_12), (.int .i64 x_13), (.bool false), (.slice none 0 0), (.string (ByteArray.mk #[])), (.int .i64 0), (.int .i64 0)] fun m_14 =>
  ldInt .i64 m_14 b_1 0 fun x_15 =>
  ldInt .i64 m_14 b_1 1 fun x_16 =>
  ldBool m_14 b_1 2 fun y_17 =>
  ldSl m_14 b_1 3 fun l_18a l_18l l_18c =>
  ldStr m_14 b_1 4 fun s_19 =>
  ldInt .i64 m_14 b_1 5 fun x_20 =>
  ldInt .i64 m_14 b_1 6 fun x_21 =>
  K (.agg #[(.int .i64 x_15), (.int .i64 x_16), (.bool y_17), (.slice l_18a l_18l l_18c), (.string s_19), (.int .i64 x_20), (.int .i64 x_21)]) m_14)
  (ldSl m_10 b_8 2 fun l_22a l_22l l_22c =>
  C 26 [(.slice l_22a l_22l l_22c)] (fun rm_24 m_24 =>
  ∃ x_23, rm_24 = (.int .i64 x_23) ∧
  ifB (x_23 != 0)
  (stL m_24 b_1 0 [(.int .i64 x_23), (.int .i64 0), (.bool false), (.slice none 0 0), (.string (ByteArray.mk #[])), (.int .i64 0), (.int .i64 0)] fun m_25 =>
  ldInt .i64 m_25 b_1 0 fun x_26 =>
  ldInt .i64 m_25 b_1 1 fun x_27 =>
  ldBool m_25 b_1 2 fun y_28 =>
  ldSl m_25 b_1 3 fun l_29a l_29l l_29c =>
  ldStr m_25 b_1 4 fun s_30 =>
  ldInt .i64 m_25 b_1 5 fun x_31 =>
  ldInt .i64 m_25 b_1 6 fun x_32 =>
  K (.agg #[(.int .i64 x_26), (.int .i64 x_27), (.bool y_28), (.slice l_29a l_29l l_29c), (.string s_30), (.int .i64 x_31), (.int .i64 x_32)]) m_25)
  (C 27 [(ptr s0 0)] (fun rm_33 m_33 =>
  rm_33 = (.tuple #[]) ∧
  ldSl m_33 b_8 2 fun l_34a l_34l l_34c =>
  C 28 [(ptr s0 0), (.slice l_34a l_34l l_34c)] (fun rm_35 m_35 =>
  rm_35 = (.tuple #[]) ∧
  loopE [0, 4] (evCode (cfgOf Tryz.prog pureF pureT C [(9, [0, 4])] 11) (codeAt (bodyOf Tryz.prog 11) [1, 1, 1, 1, 1, 1, 1, 0, 0])) (kAt (cfgOf Tryz.prog pureF pureT C [(9, [0, 4])] 11) (bodyOf Tryz.prog 11) [1, 1, 1, 1, 1, 1, 1, 0] (endK Tryz.prog 11 K)) [(0, (ptr s0 0)), (4, (ptr b_1 0))] m_35) m_33) m_24)) m_10)) m_2
theorem e11 (C : CallT) (s0 : Nat) (text1 : ByteArray) (K : Value → Mem → Prop) (m : Mem) : evFn Tryz.prog pureF pureT C [(9, [0, 4])] 11 [(ptr s0 0), (.string text1)] K m = s11 C s0 text1 K m := by kernel_rfl
theorem call11 {W0 : World} {s0 : Nat} {text1 : ByteArray} {K : Value → Mem → Prop} {m : Mem} (h : s11 (callOK Tryz.prog W0) s0 text1 K m) : callOK Tryz.prog W0 11 [(ptr s0 0), (.string text1)] K m :=
  evFn_sound pureOk mixedP (fun w => Tryz.call11 _ w) ((e11 (callOK Tryz.prog W0) s0 text1 K m).symm ▸ h)
def s11_1 (C : CallT) (s0 : Nat) (t4 : Nat) (Kt : Exit → Fr → Mem → Prop) (m : Mem) : Prop :=
  ldPtr m s0 2 fun p_36 =>
  C 29 [(.pointer p_36)] (fun rm_38 m_38 =>
  ∃ x_37, rm_38 = (.int .i64 x_37) ∧
  ifB (decide (x_37 ≥ 0))
  (C 30 [(ptr s0 0), (.int .i64 x_37)] (fun rm_40 m_40 =>
  ∃ x_39, rm_40 = (.bool x_39) ∧
  ifB (!x_39)
  (C 31 [(ptr s0 0)] (fun rm_48 m_48 =>
  ∃ x_41 x_42 x_43 x_44a x_44l x_44c x_45 x_46 x_47, rm_48 = (.agg #[(.int .i64 x_41), (.int .i64 x_42), (.bool x_43), (.slice x_44a x_44l x_44c), (.string x_45), (.int .i64 x_46), (.int .i64 x_47)]) ∧
  stL m_48 t4 0 [(.int .i64 x_41), (.int .i64 x_42), (.bool x_43), (.slice x_44a x_44l x_44c), (.string x_45), (.int .i64 x_46), (.int .i64 x_47)] fun m_49 =>
  Kt .ret [(0, (ptr s0 0)), (4, (ptr t4 0))] m_49) m_40)
  (Kt .normal [(0, (ptr s0 0)), (4, (ptr t4 0))] m_40)) m_38)
  (ldPtr m_38 s0 1 fun p_50 =>
  C 32 [(.pointer p_50)] (fun rm_52 m_52 =>
  ∃ x_51, rm_52 = (.int .i64 x_51) ∧
  ifB (x_51 == 12)
  (C 33 [(ptr s0 0)] (fun rm_60 m_60 =>
  ∃ x_53 x_54 x_55 x_56a x_56l x_56c x_57 x_58 x_59, rm_60 = (.agg #[(.int .i64 x_53), (.int .i64 x_54), (.bool x_55), (.slice x_56a x_56l x_56c), (.string x_57), (.int .i64 x_58), (.int .i64 x_59)]) ∧
  stL m_60 t4 0 [(.int .i64 x_53), (.int .i64 x_54), (.bool x_55), (.slice x_56a x_56l x_56c), (.string x_57), (.int .i64 x_58), (.int .i64 x_59)] fun m_61 =>
  Kt .ret [(0, (ptr s0 0)), (4, (ptr t4 0))] m_61) m_52)
  (C 34 [(ptr s0 0)] (fun rm_63 m_63 =>
  ∃ x_62, rm_63 = (.int .i64 x_62) ∧
  ldPtr m_63 s0 1 fun p_64 =>
  C 35 [(.pointer p_64), (.int .i64 x_62)] (fun rm_66 m_66 =>
  ∃ x_65, rm_66 = (.int .i64 x_65) ∧
  Kt .normal [(0, (ptr s0 0)), (4, (ptr t4 0))] m_66) m_63) m_52)) m_38)) m
theorem e11_1 {C : CallT} {s0 : Nat} {t4 : Nat} {Kt : Exit → Fr → Mem → Prop} {m : Mem} (h : s11_1 C s0 t4 Kt m) : evCode (cfgOf Tryz.prog pureF pureT C [(9, [0, 4])] 11) (codeAt (bodyOf Tryz.prog 11) [1, 1, 1, 1, 1, 1, 1, 0, 0]) (trimK [0, 4] Kt) [(0, (ptr s0 0)), (4, (ptr t4 0))] m :=
  (show _ = _ by kernel_rfl : evCode (cfgOf Tryz.prog pureF pureT C [(9, [0, 4])] 11) (codeAt (bodyOf Tryz.prog 11) [1, 1, 1, 1, 1, 1, 1, 0, 0]) (trimK [0, 4] Kt) [(0, (ptr s0 0)), (4, (ptr t4 0))] m = s11_1 C s0 t4 Kt m).symm ▸ h
def s11_1r (C : CallT) (s0 : Nat) (t4 : Nat) (K : Value → Mem → Prop) (m : Mem) : Prop :=
  ldInt .i64 m t4 0 fun x_67 =>
  ldInt .i64 m t4 1 fun x_68 =>
  ldBool m t4 2 fun y_69 =>
  ldSl m t4 3 fun l_70a l_70l l_70c =>
  ldStr m t4 4 fun s_71 =>
  ldInt .i64 m t4 5 fun x_72 =>
  ldInt .i64 m t4 6 fun x_73 =>
  K (.agg #[(.int .i64 x_67), (.int .i64 x_68), (.bool y_69), (.slice l_70a l_70l l_70c), (.string s_71), (.int .i64 x_72), (.int .i64 x_73)]) m
theorem e11_1r {C : CallT} {kn : Fr → Mem → Prop} {s0 : Nat} {t4 : Nat} {K : Value → Mem → Prop} {m : Mem} : (andThenE kn (kAt (cfgOf Tryz.prog pureF pureT C [(9, [0, 4])] 11) (bodyOf Tryz.prog 11) [1, 1, 1, 1, 1, 1, 1, 0] (endK Tryz.prog 11 K)) .ret [(0, (ptr s0 0)), (4, (ptr t4 0))] m) = s11_1r C s0 t4 K m := by kernel_rfl
def F11_1 (s0 : Nat) (t4 : Nat) : Fr := [(0, (ptr s0 0)), (4, (ptr t4 0))]
theorem loop11_1 {C : CallT} {γ : Type} {s0 : Nat} {t4 : Nat} {K : Value → Mem → Prop} {m : Mem} (J : γ → Mem → Prop) (μ : γ → Nat) (g : γ)  (hJ : J g  m)
    (hs : ∀ g  m, J g  m → s11_1 C s0 t4 (andThenE (fun fr m' => ∃ g', fr = F11_1 s0 t4 ∧ J g'  m' ∧ μ g'  < μ g ) (kAt (cfgOf Tryz.prog pureF pureT C [(9, [0, 4])] 11) (bodyOf Tryz.prog 11) [1, 1, 1, 1, 1, 1, 1, 0] (endK Tryz.prog 11 K))) m) :
    loopE [0, 4] (evCode (cfgOf Tryz.prog pureF pureT C [(9, [0, 4])] 11) (codeAt (bodyOf Tryz.prog 11) [1, 1, 1, 1, 1, 1, 1, 0, 0])) (kAt (cfgOf Tryz.prog pureF pureT C [(9, [0, 4])] 11) (bodyOf Tryz.prog 11) [1, 1, 1, 1, 1, 1, 1, 0] (endK Tryz.prog 11 K)) [(0, (ptr s0 0)), (4, (ptr t4 0))] m := by
  refine loop_rule (σ := γ) (fun s => F11_1 s0 t4) (fun s m => J s  m) (fun s => μ s ) g rfl hJ ?_
  intro s m hJ
  have h := hs s  m hJ
  refine e11_1 ?_
  refine Eq.mp (congrArg (fun B => s11_1 C s0 t4 (andThenE B (kAt (cfgOf Tryz.prog pureF pureT C [(9, [0, 4])] 11) (bodyOf Tryz.prog 11) [1, 1, 1, 1, 1, 1, 1, 0] (endK Tryz.prog 11 K))) m) ?_) h
  funext fr m'
  apply propext
  constructor
  · rintro ⟨g', h1, h2, h3⟩
    exact ⟨g', h1, h2, h3⟩
  · rintro ⟨g', h1, h2, h3⟩
    exact ⟨g', h1, h2, h3⟩

def s12 (C : CallT) (k0 : Nat) (problem1 : ByteArray) (proof2 : ByteArray) (K : Value → Mem → Prop) (m : Mem) : Prop :=
  allocB m (zeroBlk Tryz.prog 41) fun b_1 m_2 =>
  ldPtr m_2 k0 0 fun p_3 =>
  C 25 [(.pointer p_3), (.string problem1)] (fun rm_7 m_7 =>
  ∃ x_4 x_5 x_6a x_6l x_6c, rm_7 = (.agg #[(.int .i64 x_4), (.int .i64 x_5), (.slice x_6a x_6l x_6c)]) ∧
  allocB m_7 (zeroBlk Tryz.prog 73) fun b_8 m_9 =>
  stL m_9 b_8 0 [(.int .i64 x_4), (.int .i64 x_5), (.slice x_6a x_6l x_6c)] fun m_10 =>
  ldInt .i64 m_10 b_8 0 fun x_11 =>
  ifB (x_11 != 0)
  (ldInt .i64 m_10 b_8 0 fun x_12 =>
  ldInt .i64 m_10 b_8 1 fun x_13 =>
  C 36 [(.int .i64 x_12), (.int .i64 0), (.int .i64 x_13)] (fun rm_17 m_17 =>
  ∃ x_14 x_15 x_16, rm_17 = (.agg #[(.int .i64 x_14), (.int .i64 x_15), (.int .i64 x_16)]) ∧
  stL m_17 b_1 0 [(.int .i64 x_14), (.int .i64 x_15), (.int .i64 x_16)] fun m_18 =>
  ldInt .i64 m_18 b_1 0 fun x_19 =>
  ldInt .i64 m_18 b_1 1 fun x_20 =>
  ldInt .i64 m_18 b_1 2 fun x_21 =>
  K (.agg #[(.int .i64 x_19), (.int .i64 x_20), (.int .i64 x_21)]) m_18) m_10)
  (ldSl m_10 b_8 2 fun l_22a l_22l l_22c =>
  C 37 [(.slice l_22a l_22l l_22c)] (fun rm_24 m_24 =>
  ∃ x_23, rm_24 = (.int .i64 x_23) ∧
  ifB (x_23 != 0)
  (C 36 [(.int .i64 x_23), (.int .i64 0), (.int .i64 0)] (fun rm_28 m_28 =>
  ∃ x_25 x_26 x_27, rm_28 = (.agg #[(.int .i64 x_25), (.int .i64 x_26), (.int .i64 x_27)]) ∧
  stL m_28 b_1 0 [(.int .i64 x_25), (.int .i64 x_26), (.int .i64 x_27)] fun m_29 =>
  ldInt .i64 m_29 b_1 0 fun x_30 =>
  ldInt .i64 m_29 b_1 1 fun x_31 =>
  ldInt .i64 m_29 b_1 2 fun x_32 =>
  K (.agg #[(.int .i64 x_30), (.int .i64 x_31), (.int .i64 x_32)]) m_29) m_24)
  (ldPtr m_24 k0 0 fun p_33 =>
  C 25 [(.pointer p_33), (.string proof2)] (fun rm_37 m_37 =>
  ∃ x_34 x_35 x_36a x_36l x_36c, rm_37 = (.agg #[(.int .i64 x_34), (.int .i64 x_35), (.slice x_36a x_36l x_36c)]) ∧
  allocB m_37 (zeroBlk Tryz.prog 73) fun b_38 m_39 =>
  stL m_39 b_38 0 [(.int .i64 x_34), (.int .i64 x_35), (.slice x_36a x_36l x_36c)] fun m_40 =>
  ldInt .i64 m_40 b_38 0 fun x_41 =>
  ifB (x_41 != 0)
  (ldInt .i64 m_40 b_38 0 fun x_42 =>
  ldInt .i64 m_40 b_38 1 fun x_43 =>
  C 36 [(.int .i64 x_42), (.int .i64 1), (.int .i64 x_43)] (fun rm_47 m_47 =>
  ∃ x_44 x_45 x_46, rm_47 = (.agg #[(.int .i64 x_44), (.int .i64 x_45), (.int .i64 x_46)]) ∧
  stL m_47 b_1 0 [(.int .i64 x_44), (.int .i64 x_45), (.int .i64 x_46)] fun m_48 =>
  ldInt .i64 m_48 b_1 0 fun x_49 =>
  ldInt .i64 m_48 b_1 1 fun x_50 =>
  ldInt .i64 m_48 b_1 2 fun x_51 =>
  K (.agg #[(.int .i64 x_49), (.int .i64 x_50), (.int .i64 x_51)]) m_48) m_40)
  (C 38 [(ptr k0 0)] (fun rm_52 m_52 =>
  rm_52 = (.tuple #[]) ∧
  ldSl m_52 b_8 2 fun l_53a l_53l l_53c =>
  C 39 [(ptr k0 0), (.slice l_53a l_53l l_53c)] (fun rm_54 m_54 =>
  rm_54 = (.tuple #[]) ∧
  ldSl m_54 b_38 2 fun l_55a l_55l l_55c =>
  C 40 [(ptr k0 0), (.slice l_55a l_55l l_55c)] (fun rm_59 m_59 =>
  ∃ x_56 x_57 x_58, rm_59 = (.agg #[(.int .i64 x_56), (.int .i64 x_57), (.int .i64 x_58)]) ∧
  stL m_59 b_1 0 [(.int .i64 x_56), (.int .i64 x_57), (.int .i64 x_58)] fun m_60 =>
  ldInt .i64 m_60 b_1 0 fun x_61 =>
  ldInt .i64 m_60 b_1 1 fun x_62 =>
  ldInt .i64 m_60 b_1 2 fun x_63 =>
  K (.agg #[(.int .i64 x_61), (.int .i64 x_62), (.int .i64 x_63)]) m_60) m_54) m_52) m_40)) m_24)) m_10)) m_2
theorem e12 (C : CallT) (k0 : Nat) (problem1 : ByteArray) (proof2 : ByteArray) (K : Value → Mem → Prop) (m : Mem) : evFn Tryz.prog pureF pureT C [] 12 [(ptr k0 0), (.string problem1), (.string proof2)] K m = s12 C k0 problem1 proof2 K m := by kernel_rfl
theorem call12 {W0 : World} {k0 : Nat} {problem1 : ByteArray} {proof2 : ByteArray} {K : Value → Mem → Prop} {m : Mem} (h : s12 (callOK Tryz.prog W0) k0 problem1 proof2 K m) : callOK Tryz.prog W0 12 [(ptr k0 0), (.string problem1), (.string proof2)] K m :=
  evFn_sound pureOk mixedP (fun w => Tryz.call12 _ w) ((e12 (callOK Tryz.prog W0) k0 problem1 proof2 K m).symm ▸ h)

def s13 (C : CallT) (s0 : ByteArray) (at1 : Int) (by2 : Int) (K : Value → Mem → Prop) (m : Mem) : Prop :=
  ifB (decide (at1 < 0))
  (K (.string s0) m)
  (ifB (decide (at1 ≥ ((ByteArray.size s0 : Nat) : Int)))
  (K (.string s0) m)
  (∀ cap_1, ByteArray.size s0 ≤ cap_1 → allocB m { wr := true, cell := fun i => if i < ByteArray.size s0 then (bytesV s0)[i]? else if i < cap_1 then some (.int .u8 0) else none } fun b_2 m_3 =>
  ckI at1 (ByteArray.size s0) fun j_4 =>
  ldInt .u8 m_3 b_2 (0 + j_4) fun x_5 =>
  ckI at1 (ByteArray.size s0) fun j_6 =>
  st m_3 b_2 (0 + j_6) (.int .u8 (bXor .u8 x_5 (IntKind.wrap .u8 by2))) fun m_7 =>
  rdBytes m_7 (some ⟨b_2, 0, none⟩) (ByteArray.size s0) fun s_8 =>
  K (.string s_8) m_7))
theorem e13 (C : CallT) (s0 : ByteArray) (at1 : Int) (by2 : Int) (K : Value → Mem → Prop) (m : Mem) : evFn Tryz.prog pureF pureT C [] 13 [(.string s0), (.int .i64 at1), (.int .i64 by2)] K m = s13 C s0 at1 by2 K m := by kernel_rfl
theorem call13 {W0 : World} {s0 : ByteArray} {at1 : Int} {by2 : Int} {K : Value → Mem → Prop} {m : Mem} (h : s13 (callOK Tryz.prog W0) s0 at1 by2 K m) : callOK Tryz.prog W0 13 [(.string s0), (.int .i64 at1), (.int .i64 by2)] K m :=
  evFn_sound pureOk mixedP (fun w => Tryz.call13 _ w) ((e13 (callOK Tryz.prog W0) s0 at1 by2 K m).symm ▸ h)

def s14 (C : CallT) (w0 : Nat) (x1 : Nat) (q2 : Nat) (text3 : ByteArray) (t4_0 : Int) (t4_1 : Int) (t4_2 : Bool) (t4_3a : Option Addr) (t4_3l t4_3c : Nat) (t4_4 : ByteArray) (t4_5 : Int) (t4_6 : Int) (t4_7 : Int) (t4_8 : Int) (t4_9 : Int) (K : Value → Mem → Prop) (m : Mem) : Prop :=
  allocB m (Blk.ofList [(.int .i64 t4_0), (.int .i64 t4_1), (.bool t4_2), (.slice t4_3a t4_3l t4_3c), (.string t4_4), (.int .i64 t4_5), (.int .i64 t4_6), (.int .i64 t4_7), (.int .i64 t4_8), (.int .i64 t4_9)]) fun b_1 m_2 =>
  ldPtr m_2 x1 4 fun p_3 =>
  C 11 [(.pointer p_3), (.string text3)] (fun rm_11 m_11 =>
  ∃ x_4 x_5 x_6 x_7a x_7l x_7c x_8 x_9 x_10, rm_11 = (.agg #[(.int .i64 x_4), (.int .i64 x_5), (.bool x_6), (.slice x_7a x_7l x_7c), (.string x_8), (.int .i64 x_9), (.int .i64 x_10)]) ∧
  allocB m_11 (zeroBlk Tryz.prog 39) fun b_12 m_13 =>
  stL m_13 b_12 0 [(.int .i64 x_4), (.int .i64 x_5), (.bool x_6), (.slice x_7a x_7l x_7c), (.string x_8), (.int .i64 x_9), (.int .i64 x_10)] fun m_14 =>
  ldPtr m_14 q2 4 fun p_15 =>
  C 11 [(.pointer p_15), (.string text3)] (fun rm_23 m_23 =>
  ∃ x_16 x_17 x_18 x_19a x_19l x_19c x_20 x_21 x_22, rm_23 = (.agg #[(.int .i64 x_16), (.int .i64 x_17), (.bool x_18), (.slice x_19a x_19l x_19c), (.string x_20), (.int .i64 x_21), (.int .i64 x_22)]) ∧
  allocB m_23 (zeroBlk Tryz.prog 39) fun b_24 m_25 =>
  stL m_25 b_24 0 [(.int .i64 x_16), (.int .i64 x_17), (.bool x_18), (.slice x_19a x_19l x_19c), (.string x_20), (.int .i64 x_21), (.int .i64 x_22)] fun m_26 =>
  C 9 [] (fun rm_28 m_28 =>
  ∃ x_27, rm_28 = (.pointer x_27) ∧
  ckP x_27 fun b_29 o_29 =>
  ldPtr m_28 b_29 (o_29 + 4) fun p_30 =>
  C 11 [(.pointer p_30), (.string text3)] (fun rm_38 m_38 =>
  ∃ x_31 x_32 x_33 x_34a x_34l x_34c x_35 x_36 x_37, rm_38 = (.agg #[(.int .i64 x_31), (.int .i64 x_32), (.bool x_33), (.slice x_34a x_34l x_34c), (.string x_35), (.int .i64 x_36), (.int .i64 x_37)]) ∧
  allocB m_38 (zeroBlk Tryz.prog 39) fun b_39 m_40 =>
  stL m_40 b_39 0 [(.int .i64 x_31), (.int .i64 x_32), (.bool x_33), (.slice x_34a x_34l x_34c), (.string x_35), (.int .i64 x_36), (.int .i64 x_37)] fun m_41 =>
  ldInt .i64 m_41 b_12 0 fun x_42 =>
  ldInt .i64 m_41 b_12 1 fun x_43 =>
  ldBool m_41 b_12 2 fun y_44 =>
  ldSl m_41 b_12 3 fun l_45a l_45l l_45c =>
  ldStr m_41 b_12 4 fun s_46 =>
  ldInt .i64 m_41 b_12 5 fun x_47 =>
  ldInt .i64 m_41 b_12 6 fun x_48 =>
  ldInt .i64 m_41 b_1 0 fun x_49 =>
  ldInt .i64 m_41 b_1 1 fun x_50 =>
  ldBool m_41 b_1 2 fun y_51 =>
  ldSl m_41 b_1 3 fun l_52a l_52l l_52c =>
  ldStr m_41 b_1 4 fun s_53 =>
  ldInt .i64 m_41 b_1 5 fun x_54 =>
  ldInt .i64 m_41 b_1 6 fun x_55 =>
  C 41 [(.agg #[(.int .i64 x_42), (.int .i64 x_43), (.bool y_44), (.slice l_45a l_45l l_45c), (.string s_46), (.int .i64 x_47), (.int .i64 x_48)]), (.agg #[(.int .i64 x_49), (.int .i64 x_50), (.bool y_51), (.slice l_52a l_52l l_52c), (.string s_53), (.int .i64 x_54), (.int .i64 x_55)])] (fun rm_57 m_57 =>
  ∃ x_56, rm_57 = (.bool x_56) ∧
  ifB (!x_56)
  (K (.bool false) m_57)
  (ldInt .i64 m_57 b_12 0 fun x_58 =>
  ldInt .i64 m_57 b_12 1 fun x_59 =>
  ldBool m_57 b_12 2 fun y_60 =>
  ldSl m_57 b_12 3 fun l_61a l_61l l_61c =>
  ldStr m_57 b_12 4 fun s_62 =>
  ldInt .i64 m_57 b_12 5 fun x_63 =>
  ldInt .i64 m_57 b_12 6 fun x_64 =>
  ldInt .i64 m_57 b_39 0 fun x_65 =>
  ldInt .i64 m_57 b_39 1 fun x_66 =>
  ldBool m_57 b_39 2 fun y_67 =>
  ldSl m_57 b_39 3 fun l_68a l_68l l_68c =>
  ldStr m_57 b_39 4 fun s_69 =>
  ldInt .i64 m_57 b_39 5 fun x_70 =>
  ldInt .i64 m_57 b_39 6 fun x_71 =>
  C 41 [(.agg #[(.int .i64 x_58), (.int .i64 x_59), (.bool y_60), (.slice l_61a l_61l l_61c), (.string s_62), (.int .i64 x_63), (.int .i64 x_64)]), (.agg #[(.int .i64 x_65), (.int .i64 x_66), (.bool y_67), (.slice l_68a l_68l l_68c), (.string s_69), (.int .i64 x_70), (.int .i64 x_71)])] (fun rm_73 m_73 =>
  ∃ x_72, rm_73 = (.bool x_72) ∧
  ifB (!x_72)
  (K (.bool false) m_73)
  (ldInt .i64 m_73 b_24 0 fun x_74 =>
  ldInt .i64 m_73 b_24 1 fun x_75 =>
  ldBool m_73 b_24 2 fun y_76 =>
  ldSl m_73 b_24 3 fun l_77a l_77l l_77c =>
  ldStr m_73 b_24 4 fun s_78 =>
  ldInt .i64 m_73 b_24 5 fun x_79 =>
  ldInt .i64 m_73 b_24 6 fun x_80 =>
  ldInt .i64 m_73 b_39 0 fun x_81 =>
  ldInt .i64 m_73 b_39 1 fun x_82 =>
  ldBool m_73 b_39 2 fun y_83 =>
  ldSl m_73 b_39 3 fun l_84a l_84l l_84c =>
  ldStr m_73 b_39 4 fun s_85 =>
  ldInt .i64 m_73 b_39 5 fun x_86 =>
  ldInt .i64 m_73 b_39 6 fun x_87 =>
  C 41 [(.agg #[(.int .i64 x_74), (.int .i64 x_75), (.bool y_76), (.slice l_77a l_77l l_77c), (.string s_78), (.int .i64 x_79), (.int .i64 x_80)]), (.agg #[(.int .i64 x_81), (.int .i64 x_82), (.bool y_83), (.slice l_84a l_84l l_84c), (.string s_85), (.int .i64 x_86), (.int .i64 x_87)])] (fun rm_89 m_89 =>
  ∃ x_88, rm_89 = (.bool x_88) ∧
  ifB (!x_88)
  (K (.bool false) m_89)
  (ldSl m_89 b_12 3 fun l_90a l_90l l_90c =>
  ldSl m_89 b_39 3 fun l_91a l_91l l_91c =>
  ifB (!((Option.isNone l_90a) == (Option.isNone l_91a)))
  (K (.bool false) m_89)
  (ldSl m_89 b_24 3 fun l_92a l_92l l_92c =>
  ldSl m_89 b_39 3 fun l_93a l_93l l_93c =>
  ifB (!((Option.isNone l_92a) == (Option.isNone l_93a)))
  (K (.bool false) m_89)
  (ldSl m_89 b_12 3 fun l_94a l_94l l_94c =>
  ldSl m_89 b_12 3 fun l_95a l_95l l_95c =>
  ifB (((l_94c : Nat) : Int) != ((l_95l : Nat) : Int))
  (K (.bool false) m_89)
  (ldSl m_89 b_24 3 fun l_96a l_96l l_96c =>
  ldSl m_89 b_24 3 fun l_97a l_97l l_97c =>
  ifB (((l_96c : Nat) : Int) != ((l_97l : Nat) : Int))
  (K (.bool false) m_89)
  (ldSl m_89 b_39 3 fun l_98a l_98l l_98c =>
  ldSl m_89 b_39 3 fun l_99a l_99l l_99c =>
  ifB (((l_98c : Nat) : Int) != ((l_99l : Nat) : Int))
  (K (.bool false) m_89)
  (ldInt .i64 m_89 b_12 0 fun x_100 =>
  ldInt .i64 m_89 b_12 1 fun x_101 =>
  ldBool m_89 b_12 2 fun y_102 =>
  ldSl m_89 b_12 3 fun l_103a l_103l l_103c =>
  ldStr m_89 b_12 4 fun s_104 =>
  ldInt .i64 m_89 b_12 5 fun x_105 =>
  ldInt .i64 m_89 b_12 6 fun x_106 =>
  C 42 [(ptr x1 0), (.string text3), (.agg #[(.int .i64 x_100), (.int .i64 x_101), (.bool y_102), (.slice l_103a l_103l l_103c), (.string s_104), (.int .i64 x_105), (.int .i64 x_106)])] (fun rm_108 m_108 =>
  ∃ x_107, rm_108 = (.bool x_107) ∧
  ifB (!x_107)
  (K (.bool false) m_108)
  (ldSl m_108 b_12 3 fun l_109a l_109l l_109c =>
  C 43 [(ptr w0 0), (.slice l_109a l_109l l_109c)] (fun rm_110 m_110 =>
  rm_110 = (.tuple #[]) ∧
  ldSl m_110 b_24 3 fun l_111a l_111l l_111c =>
  C 43 [(ptr w0 0), (.slice l_111a l_111l l_111c)] (fun rm_112 m_112 =>
  rm_112 = (.tuple #[]) ∧
  ldSl m_112 b_39 3 fun l_113a l_113l l_113c =>
  C 43 [(ptr w0 0), (.slice l_113a l_113l l_113c)] (fun rm_114 m_114 =>
  rm_114 = (.tuple #[]) ∧
  ldSl m_114 b_1 3 fun l_115a l_115l l_115c =>
  C 43 [(ptr w0 0), (.slice l_115a l_115l l_115c)] (fun rm_116 m_116 =>
  rm_116 = (.tuple #[]) ∧
  ldSl m_116 w0 3 fun l_117a l_117l l_117c =>
  ldStr m_116 b_12 4 fun s_118 =>
  allocB m_116 (Blk.ofList [(.string text3), (.string s_118)]) fun b_119 m_120 =>
  rdRow m_120 (some ⟨b_119, 0, none⟩) (1 * 2) fun r_123 =>
  appendC m_120 2 32 [(.string (ByteArray.mk #[])), (.string (ByteArray.mk #[]))] l_117a l_117l l_117c 1 r_123 fun a_121 c_121 m_122 =>
  st m_122 w0 3 (.slice a_121 (l_117l + 1) c_121) fun m_124 =>
  K (.bool true) m_124) m_114) m_112) m_110) m_108)) m_89))))))) m_73)) m_57)) m_41) m_28) m_26) m_14) m_2
theorem e14 (C : CallT) (w0 : Nat) (x1 : Nat) (q2 : Nat) (text3 : ByteArray) (t4_0 : Int) (t4_1 : Int) (t4_2 : Bool) (t4_3a : Option Addr) (t4_3l t4_3c : Nat) (t4_4 : ByteArray) (t4_5 : Int) (t4_6 : Int) (t4_7 : Int) (t4_8 : Int) (t4_9 : Int) (K : Value → Mem → Prop) (m : Mem) : evFn Tryz.prog pureF pureT C [] 14 [(ptr w0 0), (ptr x1 0), (ptr q2 0), (.string text3), (.agg #[(.int .i64 t4_0), (.int .i64 t4_1), (.bool t4_2), (.slice t4_3a t4_3l t4_3c), (.string t4_4), (.int .i64 t4_5), (.int .i64 t4_6), (.int .i64 t4_7), (.int .i64 t4_8), (.int .i64 t4_9)])] K m = s14 C w0 x1 q2 text3 t4_0 t4_1 t4_2 t4_3a t4_3l t4_3c t4_4 t4_5 t4_6 t4_7 t4_8 t4_9 K m := by kernel_rfl
theorem call14 {W0 : World} {w0 : Nat} {x1 : Nat} {q2 : Nat} {text3 : ByteArray} {t4_0 : Int} {t4_1 : Int} {t4_2 : Bool} {t4_3a : Option Addr} {t4_3l t4_3c : Nat} {t4_4 : ByteArray} {t4_5 : Int} {t4_6 : Int} {t4_7 : Int} {t4_8 : Int} {t4_9 : Int} {K : Value → Mem → Prop} {m : Mem} (h : s14 (callOK Tryz.prog W0) w0 x1 q2 text3 t4_0 t4_1 t4_2 t4_3a t4_3l t4_3c t4_4 t4_5 t4_6 t4_7 t4_8 t4_9 K m) : callOK Tryz.prog W0 14 [(ptr w0 0), (ptr x1 0), (ptr q2 0), (.string text3), (.agg #[(.int .i64 t4_0), (.int .i64 t4_1), (.bool t4_2), (.slice t4_3a t4_3l t4_3c), (.string t4_4), (.int .i64 t4_5), (.int .i64 t4_6), (.int .i64 t4_7), (.int .i64 t4_8), (.int .i64 t4_9)])] K m :=
  evFn_sound pureOk mixedP (fun w => Tryz.call14 _ w) ((e14 (callOK Tryz.prog W0) w0 x1 q2 text3 t4_0 t4_1 t4_2 t4_3a t4_3l t4_3c t4_4 t4_5 t4_6 t4_7 t4_8 t4_9 K m).symm ▸ h)

def s15 (C : CallT) (x0 : Nat) (problem1 : ByteArray) (proof2 : ByteArray) (t3_0 : Int) (t3_1 : Int) (t3_2 : Bool) (t3_3a : Option Addr) (t3_3l t3_3c : Nat) (t3_4 : ByteArray) (t3_5 : Int) (t3_6 : Int) (t3_7 : Int) (t3_8 : Int) (t3_9 : Int) (K : Value → Mem → Prop) (m : Mem) : Prop :=
  allocB m (Blk.ofList [(.int .i64 t3_0), (.int .i64 t3_1), (.bool t3_2), (.slice t3_3a t3_3l t3_3c), (.string t3_4), (.int .i64 t3_5), (.int .i64 t3_6), (.int .i64 t3_7), (.int .i64 t3_8), (.int .i64 t3_9)]) fun b_1 m_2 =>
  C 44 [(.bool true)] (fun rm_4 m_4 =>
  ∃ x_3, rm_4 = (.pointer x_3) ∧
  C 45 [(.pointer x_3), (ptr x0 0), (.string problem1), (.string proof2)] (fun rm_9 m_9 =>
  ∃ x_5 x_6 x_7 x_8, rm_9 = (.tuple #[(.agg #[(.int .i64 x_5), (.int .i64 x_6), (.int .i64 x_7)]), (.bool x_8)]) ∧
  allocB m_9 (zeroBlk Tryz.prog 41) fun b_10 m_11 =>
  stL m_11 b_10 0 [(.int .i64 x_5), (.int .i64 x_6), (.int .i64 x_7)] fun m_12 =>
  ifB x_8
  (ldInt .i64 m_12 b_10 0 fun x_13 =>
  ldInt .i64 m_12 b_10 1 fun x_14 =>
  ldInt .i64 m_12 b_10 2 fun x_15 =>
  ldInt .i64 m_12 b_1 7 fun x_16 =>
  ldInt .i64 m_12 b_1 8 fun x_17 =>
  ldInt .i64 m_12 b_1 9 fun x_18 =>
  K (.bool (x_13 == x_16 && (x_14 == x_17 && (x_15 == x_18 && true)))) m_12)
  (K (.bool false) m_12)) m_4) m_2
theorem e15 (C : CallT) (x0 : Nat) (problem1 : ByteArray) (proof2 : ByteArray) (t3_0 : Int) (t3_1 : Int) (t3_2 : Bool) (t3_3a : Option Addr) (t3_3l t3_3c : Nat) (t3_4 : ByteArray) (t3_5 : Int) (t3_6 : Int) (t3_7 : Int) (t3_8 : Int) (t3_9 : Int) (K : Value → Mem → Prop) (m : Mem) : evFn Tryz.prog pureF pureT C [] 15 [(ptr x0 0), (.string problem1), (.string proof2), (.agg #[(.int .i64 t3_0), (.int .i64 t3_1), (.bool t3_2), (.slice t3_3a t3_3l t3_3c), (.string t3_4), (.int .i64 t3_5), (.int .i64 t3_6), (.int .i64 t3_7), (.int .i64 t3_8), (.int .i64 t3_9)])] K m = s15 C x0 problem1 proof2 t3_0 t3_1 t3_2 t3_3a t3_3l t3_3c t3_4 t3_5 t3_6 t3_7 t3_8 t3_9 K m := by kernel_rfl
theorem call15 {W0 : World} {x0 : Nat} {problem1 : ByteArray} {proof2 : ByteArray} {t3_0 : Int} {t3_1 : Int} {t3_2 : Bool} {t3_3a : Option Addr} {t3_3l t3_3c : Nat} {t3_4 : ByteArray} {t3_5 : Int} {t3_6 : Int} {t3_7 : Int} {t3_8 : Int} {t3_9 : Int} {K : Value → Mem → Prop} {m : Mem} (h : s15 (callOK Tryz.prog W0) x0 problem1 proof2 t3_0 t3_1 t3_2 t3_3a t3_3l t3_3c t3_4 t3_5 t3_6 t3_7 t3_8 t3_9 K m) : callOK Tryz.prog W0 15 [(ptr x0 0), (.string problem1), (.string proof2), (.agg #[(.int .i64 t3_0), (.int .i64 t3_1), (.bool t3_2), (.slice t3_3a t3_3l t3_3c), (.string t3_4), (.int .i64 t3_5), (.int .i64 t3_6), (.int .i64 t3_7), (.int .i64 t3_8), (.int .i64 t3_9)])] K m :=
  evFn_sound pureOk mixedP (fun w => Tryz.call15 _ w) ((e15 (callOK Tryz.prog W0) x0 problem1 proof2 t3_0 t3_1 t3_2 t3_3a t3_3l t3_3c t3_4 t3_5 t3_6 t3_7 t3_8 t3_9 K m).symm ▸ h)

end Go.Proofs.Qxb6500974aGreat
