import Derived.Test.Qxb6500974aGreatPure
set_option linter.all false
set_option linter.unusedVariables false
set_option maxRecDepth 100000
namespace Go.Proofs.Qxb6500974aGreat
open Go.Eng

def s80 (C : CallT) (p0 : Nat) (text1 : ByteArray) (K : Value → Mem → Prop) (m : Mem) : Prop :=
  allocB m (zeroBlk Tryz.prog 73) fun b_1 m_2 =>
  ldInt .i64 m_2 p0 0 fun x_3 =>
  st m_2 p0 0 (.int .i64 (IntKind.wrap .i64 (x_3 + 1))) fun m_4 =>
  ifB (decide (((ByteArray.size text1 : Nat) : Int) > 1048576))
  (stL m_4 b_1 0 [(.int .i64 1), (.int .i64 0), (.slice none 0 0)] fun m_5 =>
  ldInt .i64 m_5 b_1 0 fun x_6 =>
  ldInt .i64 m_5 b_1 1 fun x_7 =>
  ldSl m_5 b_1 2 fun l_8a l_8l l_8c =>
  K (.agg #[(.int .i64 x_6), (.int .i64 x_7), (.slice l_8a l_8l l_8c)]) m_5)
  (loopE [1, 4, 5, 6, 7, 8, 9] (evCode (cfgOf Tryz.prog pureF pureT C [(8, [1, 4, 5, 6, 7, 8, 9]), (12, [1, 4, 5, 6, 7, 8, 9]), (15, [1, 4, 5, 6, 7, 8, 9, 10])] 80) (codeAt (bodyOf Tryz.prog 80) [1, 1, 1, 1, 1, 1, 1, 0, 0, 0])) (kAt (cfgOf Tryz.prog pureF pureT C [(8, [1, 4, 5, 6, 7, 8, 9]), (12, [1, 4, 5, 6, 7, 8, 9]), (15, [1, 4, 5, 6, 7, 8, 9, 10])] 80) (bodyOf Tryz.prog 80) [1, 1, 1, 1, 1, 1, 1, 0, 0] (endK Tryz.prog 80 K)) [(1, (.string text1)), (4, (ptr b_1 0)), (5, (.slice none 0 0)), (6, (.slice none 0 0)), (7, (.bool false)), (8, (.bool false)), (9, (.int .i64 0))] m_4)
theorem e80 (C : CallT) (p0 : Nat) (text1 : ByteArray) (K : Value → Mem → Prop) (m : Mem) : evFn Tryz.prog pureF pureT C [(8, [1, 4, 5, 6, 7, 8, 9]), (12, [1, 4, 5, 6, 7, 8, 9]), (15, [1, 4, 5, 6, 7, 8, 9, 10])] 80 [(ptr p0 0), (.string text1)] K m = s80 C p0 text1 K m := by kernel_rfl
theorem call80 {W0 : World} {p0 : Nat} {text1 : ByteArray} {K : Value → Mem → Prop} {m : Mem} (h : s80 (callOK Tryz.prog W0) p0 text1 K m) : callOK Tryz.prog W0 80 [(ptr p0 0), (.string text1)] K m :=
  evFn_sound pureOk mixedP (fun w => Tryz.call80 _ w) ((e80 (callOK Tryz.prog W0) p0 text1 K m).symm ▸ h)
def s80_1 (C : CallT) (text1 : ByteArray) (t4 : Nat) (flat5a : Option Addr) (flat5l flat5c : Nat) (row6a : Option Addr) (row6l row6c : Nat) (del7 : Bool) (open8 : Bool) (i9 : Int) (Kt : Exit → Fr → Mem → Prop) (m : Mem) : Prop :=
  ifB (decide (i9 < ((ByteArray.size text1 : Nat) : Int)))
  (ckS text1 i9 fun ch_9 =>
  ifB (goSpace ((UInt8.toNat ch_9 : Nat) : Int))
  (Kt .normal [(1, (.string text1)), (4, (ptr t4 0)), (5, (.slice flat5a flat5l flat5c)), (6, (.slice row6a row6l row6c)), (7, (.bool del7)), (8, (.bool open8)), (9, (.int .i64 (IntKind.wrap .i64 (i9 + 1))))] m)
  (ckS text1 i9 fun ch_10 =>
  ifB (((UInt8.toNat ch_10 : Nat) : Int) == 99)
  (loopE [1, 4, 5, 6, 7, 8, 9] (evCode (cfgOf Tryz.prog pureF pureT C [(8, [1, 4, 5, 6, 7, 8, 9]), (12, [1, 4, 5, 6, 7, 8, 9]), (15, [1, 4, 5, 6, 7, 8, 9, 10])] 80) (codeAt (codeAt (bodyOf Tryz.prog 80) [1, 1, 1, 1, 1, 1, 1, 0, 0, 0]) [1, 0, 1, 0, 1, 0, 0, 0, 0])) (kAt (cfgOf Tryz.prog pureF pureT C [(8, [1, 4, 5, 6, 7, 8, 9]), (12, [1, 4, 5, 6, 7, 8, 9]), (15, [1, 4, 5, 6, 7, 8, 9, 10])] 80) (codeAt (bodyOf Tryz.prog 80) [1, 1, 1, 1, 1, 1, 1, 0, 0, 0]) [1, 0, 1, 0, 1, 0, 0, 0] (trimK [1, 4, 5, 6, 7, 8, 9] Kt)) [(1, (.string text1)), (4, (ptr t4 0)), (5, (.slice flat5a flat5l flat5c)), (6, (.slice row6a row6l row6c)), (7, (.bool del7)), (8, (.bool open8)), (9, (.int .i64 i9))] m)
  (loopE [1, 4, 5, 6, 7, 8, 9, 10] (evCode (cfgOf Tryz.prog pureF pureT C [(8, [1, 4, 5, 6, 7, 8, 9]), (12, [1, 4, 5, 6, 7, 8, 9]), (15, [1, 4, 5, 6, 7, 8, 9, 10])] 80) (codeAt (codeAt (bodyOf Tryz.prog 80) [1, 1, 1, 1, 1, 1, 1, 0, 0, 0]) [1, 0, 1, 1, 1, 0, 0, 0])) (kAt (cfgOf Tryz.prog pureF pureT C [(8, [1, 4, 5, 6, 7, 8, 9]), (12, [1, 4, 5, 6, 7, 8, 9]), (15, [1, 4, 5, 6, 7, 8, 9, 10])] 80) (codeAt (bodyOf Tryz.prog 80) [1, 1, 1, 1, 1, 1, 1, 0, 0, 0]) [1, 0, 1, 1, 1, 0, 0] (trimK [1, 4, 5, 6, 7, 8, 9] Kt)) [(1, (.string text1)), (4, (ptr t4 0)), (5, (.slice flat5a flat5l flat5c)), (6, (.slice row6a row6l row6c)), (7, (.bool del7)), (8, (.bool open8)), (9, (.int .i64 i9)), (10, (.int .i64 i9))] m)))
  (Kt (.exit 0) [(1, (.string text1)), (4, (ptr t4 0)), (5, (.slice flat5a flat5l flat5c)), (6, (.slice row6a row6l row6c)), (7, (.bool del7)), (8, (.bool open8)), (9, (.int .i64 i9))] m)
theorem e80_1 {C : CallT} {text1 : ByteArray} {t4 : Nat} {flat5a : Option Addr} {flat5l flat5c : Nat} {row6a : Option Addr} {row6l row6c : Nat} {del7 : Bool} {open8 : Bool} {i9 : Int} {Kt : Exit → Fr → Mem → Prop} {m : Mem} (h : s80_1 C text1 t4 flat5a flat5l flat5c row6a row6l row6c del7 open8 i9 Kt m) : evCode (cfgOf Tryz.prog pureF pureT C [(8, [1, 4, 5, 6, 7, 8, 9]), (12, [1, 4, 5, 6, 7, 8, 9]), (15, [1, 4, 5, 6, 7, 8, 9, 10])] 80) (codeAt (bodyOf Tryz.prog 80) [1, 1, 1, 1, 1, 1, 1, 0, 0, 0]) (trimK [1, 4, 5, 6, 7, 8, 9] Kt) [(1, (.string text1)), (4, (ptr t4 0)), (5, (.slice flat5a flat5l flat5c)), (6, (.slice row6a row6l row6c)), (7, (.bool del7)), (8, (.bool open8)), (9, (.int .i64 i9))] m :=
  (show _ = _ by kernel_rfl : evCode (cfgOf Tryz.prog pureF pureT C [(8, [1, 4, 5, 6, 7, 8, 9]), (12, [1, 4, 5, 6, 7, 8, 9]), (15, [1, 4, 5, 6, 7, 8, 9, 10])] 80) (codeAt (bodyOf Tryz.prog 80) [1, 1, 1, 1, 1, 1, 1, 0, 0, 0]) (trimK [1, 4, 5, 6, 7, 8, 9] Kt) [(1, (.string text1)), (4, (ptr t4 0)), (5, (.slice flat5a flat5l flat5c)), (6, (.slice row6a row6l row6c)), (7, (.bool del7)), (8, (.bool open8)), (9, (.int .i64 i9))] m = s80_1 C text1 t4 flat5a flat5l flat5c row6a row6l row6c del7 open8 i9 Kt m).symm ▸ h
def s80_1r (C : CallT) (text1 : ByteArray) (t4 : Nat) (flat5a : Option Addr) (flat5l flat5c : Nat) (row6a : Option Addr) (row6l row6c : Nat) (del7 : Bool) (open8 : Bool) (i9 : Int) (K : Value → Mem → Prop) (m : Mem) : Prop :=
  ldInt .i64 m t4 0 fun x_11 =>
  ldInt .i64 m t4 1 fun x_12 =>
  ldSl m t4 2 fun l_13a l_13l l_13c =>
  K (.agg #[(.int .i64 x_11), (.int .i64 x_12), (.slice l_13a l_13l l_13c)]) m
theorem e80_1r {C : CallT} {kn : Fr → Mem → Prop} {text1 : ByteArray} {t4 : Nat} {flat5a : Option Addr} {flat5l flat5c : Nat} {row6a : Option Addr} {row6l row6c : Nat} {del7 : Bool} {open8 : Bool} {i9 : Int} {K : Value → Mem → Prop} {m : Mem} : (andThenE kn (kAt (cfgOf Tryz.prog pureF pureT C [(8, [1, 4, 5, 6, 7, 8, 9]), (12, [1, 4, 5, 6, 7, 8, 9]), (15, [1, 4, 5, 6, 7, 8, 9, 10])] 80) (bodyOf Tryz.prog 80) [1, 1, 1, 1, 1, 1, 1, 0, 0] (endK Tryz.prog 80 K)) .ret [(1, (.string text1)), (4, (ptr t4 0)), (5, (.slice flat5a flat5l flat5c)), (6, (.slice row6a row6l row6c)), (7, (.bool del7)), (8, (.bool open8)), (9, (.int .i64 i9))] m) = s80_1r C text1 t4 flat5a flat5l flat5c row6a row6l row6c del7 open8 i9 K m := by kernel_rfl
def s80_1x0 (C : CallT) (text1 : ByteArray) (t4 : Nat) (flat5a : Option Addr) (flat5l flat5c : Nat) (row6a : Option Addr) (row6l row6c : Nat) (del7 : Bool) (open8 : Bool) (i9 : Int) (K : Value → Mem → Prop) (m : Mem) : Prop :=
  ifB open8
  (stL m t4 0 [(.int .i64 5), (.int .i64 ((ByteArray.size text1 : Nat) : Int)), (.slice none 0 0)] fun m_14 =>
  ldInt .i64 m_14 t4 0 fun x_15 =>
  ldInt .i64 m_14 t4 1 fun x_16 =>
  ldSl m_14 t4 2 fun l_17a l_17l l_17c =>
  K (.agg #[(.int .i64 x_15), (.int .i64 x_16), (.slice l_17a l_17l l_17c)]) m_14)
  (C 52 [(.slice flat5a flat5l flat5c)] (fun rm_19 m_19 =>
  ∃ x_18a x_18l x_18c, rm_19 = (.slice x_18a x_18l x_18c) ∧
  stL m_19 t4 0 [(.int .i64 0), (.int .i64 0), (.slice x_18a x_18l x_18c)] fun m_20 =>
  ldInt .i64 m_20 t4 0 fun x_21 =>
  ldInt .i64 m_20 t4 1 fun x_22 =>
  ldSl m_20 t4 2 fun l_23a l_23l l_23c =>
  K (.agg #[(.int .i64 x_21), (.int .i64 x_22), (.slice l_23a l_23l l_23c)]) m_20) m)
theorem e80_1x0 {C : CallT} {kn : Fr → Mem → Prop} {text1 : ByteArray} {t4 : Nat} {flat5a : Option Addr} {flat5l flat5c : Nat} {row6a : Option Addr} {row6l row6c : Nat} {del7 : Bool} {open8 : Bool} {i9 : Int} {K : Value → Mem → Prop} {m : Mem} : (andThenE kn (kAt (cfgOf Tryz.prog pureF pureT C [(8, [1, 4, 5, 6, 7, 8, 9]), (12, [1, 4, 5, 6, 7, 8, 9]), (15, [1, 4, 5, 6, 7, 8, 9, 10])] 80) (bodyOf Tryz.prog 80) [1, 1, 1, 1, 1, 1, 1, 0, 0] (endK Tryz.prog 80 K)) (.exit 0) [(1, (.string text1)), (4, (ptr t4 0)), (5, (.slice flat5a flat5l flat5c)), (6, (.slice row6a row6l row6c)), (7, (.bool del7)), (8, (.bool open8)), (9, (.int .i64 i9))] m) = s80_1x0 C text1 t4 flat5a flat5l flat5c row6a row6l row6c del7 open8 i9 K m := by kernel_rfl
def s80_2 (C : CallT) (text1 : ByteArray) (t4 : Nat) (flat5a : Option Addr) (flat5l flat5c : Nat) (row6a : Option Addr) (row6l row6c : Nat) (del7 : Bool) (open8 : Bool) (i9 : Int) (Kt : Exit → Fr → Mem → Prop) (m : Mem) : Prop :=
  ifB (decide (i9 < ((ByteArray.size text1 : Nat) : Int)))
  (ckS text1 i9 fun ch_24 =>
  ifB (((UInt8.toNat ch_24 : Nat) : Int) != 10)
  (Kt .normal [(1, (.string text1)), (4, (ptr t4 0)), (5, (.slice flat5a flat5l flat5c)), (6, (.slice row6a row6l row6c)), (7, (.bool del7)), (8, (.bool open8)), (9, (.int .i64 (IntKind.wrap .i64 (i9 + 1))))] m)
  (Kt (.exit 2) [(1, (.string text1)), (4, (ptr t4 0)), (5, (.slice flat5a flat5l flat5c)), (6, (.slice row6a row6l row6c)), (7, (.bool del7)), (8, (.bool open8)), (9, (.int .i64 i9))] m))
  (Kt (.exit 2) [(1, (.string text1)), (4, (ptr t4 0)), (5, (.slice flat5a flat5l flat5c)), (6, (.slice row6a row6l row6c)), (7, (.bool del7)), (8, (.bool open8)), (9, (.int .i64 i9))] m)
theorem e80_2 {C : CallT} {text1 : ByteArray} {t4 : Nat} {flat5a : Option Addr} {flat5l flat5c : Nat} {row6a : Option Addr} {row6l row6c : Nat} {del7 : Bool} {open8 : Bool} {i9 : Int} {Kt : Exit → Fr → Mem → Prop} {m : Mem} (h : s80_2 C text1 t4 flat5a flat5l flat5c row6a row6l row6c del7 open8 i9 Kt m) : evCode (cfgOf Tryz.prog pureF pureT C [(8, [1, 4, 5, 6, 7, 8, 9]), (12, [1, 4, 5, 6, 7, 8, 9]), (15, [1, 4, 5, 6, 7, 8, 9, 10])] 80) (codeAt (codeAt (bodyOf Tryz.prog 80) [1, 1, 1, 1, 1, 1, 1, 0, 0, 0]) [1, 0, 1, 0, 1, 0, 0, 0, 0]) (trimK [1, 4, 5, 6, 7, 8, 9] Kt) [(1, (.string text1)), (4, (ptr t4 0)), (5, (.slice flat5a flat5l flat5c)), (6, (.slice row6a row6l row6c)), (7, (.bool del7)), (8, (.bool open8)), (9, (.int .i64 i9))] m :=
  (show _ = _ by kernel_rfl : evCode (cfgOf Tryz.prog pureF pureT C [(8, [1, 4, 5, 6, 7, 8, 9]), (12, [1, 4, 5, 6, 7, 8, 9]), (15, [1, 4, 5, 6, 7, 8, 9, 10])] 80) (codeAt (codeAt (bodyOf Tryz.prog 80) [1, 1, 1, 1, 1, 1, 1, 0, 0, 0]) [1, 0, 1, 0, 1, 0, 0, 0, 0]) (trimK [1, 4, 5, 6, 7, 8, 9] Kt) [(1, (.string text1)), (4, (ptr t4 0)), (5, (.slice flat5a flat5l flat5c)), (6, (.slice row6a row6l row6c)), (7, (.bool del7)), (8, (.bool open8)), (9, (.int .i64 i9))] m = s80_2 C text1 t4 flat5a flat5l flat5c row6a row6l row6c del7 open8 i9 Kt m).symm ▸ h
def s80_2x2 (C : CallT) (text1 : ByteArray) (t4 : Nat) (flat5a : Option Addr) (flat5l flat5c : Nat) (row6a : Option Addr) (row6l row6c : Nat) (del7 : Bool) (open8 : Bool) (i9 : Int) (Kt : Exit → Fr → Mem → Prop) (m : Mem) : Prop :=
  Kt .normal [(1, (.string text1)), (4, (ptr t4 0)), (5, (.slice flat5a flat5l flat5c)), (6, (.slice row6a row6l row6c)), (7, (.bool del7)), (8, (.bool open8)), (9, (.int .i64 i9))] m
theorem e80_2x2 {C : CallT} {kn : Fr → Mem → Prop} {text1 : ByteArray} {t4 : Nat} {flat5a : Option Addr} {flat5l flat5c : Nat} {row6a : Option Addr} {row6l row6c : Nat} {del7 : Bool} {open8 : Bool} {i9 : Int} {Kt : Exit → Fr → Mem → Prop} {m : Mem} : (andThenE kn (kAt (cfgOf Tryz.prog pureF pureT C [(8, [1, 4, 5, 6, 7, 8, 9]), (12, [1, 4, 5, 6, 7, 8, 9]), (15, [1, 4, 5, 6, 7, 8, 9, 10])] 80) (codeAt (bodyOf Tryz.prog 80) [1, 1, 1, 1, 1, 1, 1, 0, 0, 0]) [1, 0, 1, 0, 1, 0, 0, 0] (trimK [1, 4, 5, 6, 7, 8, 9] Kt)) (.exit 2) [(1, (.string text1)), (4, (ptr t4 0)), (5, (.slice flat5a flat5l flat5c)), (6, (.slice row6a row6l row6c)), (7, (.bool del7)), (8, (.bool open8)), (9, (.int .i64 i9))] m) = s80_2x2 C text1 t4 flat5a flat5l flat5c row6a row6l row6c del7 open8 i9 Kt m := by kernel_rfl
def s80_3 (C : CallT) (text1 : ByteArray) (t4 : Nat) (flat5a : Option Addr) (flat5l flat5c : Nat) (row6a : Option Addr) (row6l row6c : Nat) (del7 : Bool) (open8 : Bool) (i9 : Int) (j10 : Int) (Kt : Exit → Fr → Mem → Prop) (m : Mem) : Prop :=
  ifB (decide (j10 < ((ByteArray.size text1 : Nat) : Int)))
  (ckS text1 j10 fun ch_25 =>
  ifB (!(goSpace ((UInt8.toNat ch_25 : Nat) : Int)))
  (Kt .normal [(1, (.string text1)), (4, (ptr t4 0)), (5, (.slice flat5a flat5l flat5c)), (6, (.slice row6a row6l row6c)), (7, (.bool del7)), (8, (.bool open8)), (9, (.int .i64 i9)), (10, (.int .i64 (IntKind.wrap .i64 (j10 + 1))))] m)
  (Kt (.exit 4) [(1, (.string text1)), (4, (ptr t4 0)), (5, (.slice flat5a flat5l flat5c)), (6, (.slice row6a row6l row6c)), (7, (.bool del7)), (8, (.bool open8)), (9, (.int .i64 i9)), (10, (.int .i64 j10))] m))
  (Kt (.exit 4) [(1, (.string text1)), (4, (ptr t4 0)), (5, (.slice flat5a flat5l flat5c)), (6, (.slice row6a row6l row6c)), (7, (.bool del7)), (8, (.bool open8)), (9, (.int .i64 i9)), (10, (.int .i64 j10))] m)
theorem e80_3 {C : CallT} {text1 : ByteArray} {t4 : Nat} {flat5a : Option Addr} {flat5l flat5c : Nat} {row6a : Option Addr} {row6l row6c : Nat} {del7 : Bool} {open8 : Bool} {i9 : Int} {j10 : Int} {Kt : Exit → Fr → Mem → Prop} {m : Mem} (h : s80_3 C text1 t4 flat5a flat5l flat5c row6a row6l row6c del7 open8 i9 j10 Kt m) : evCode (cfgOf Tryz.prog pureF pureT C [(8, [1, 4, 5, 6, 7, 8, 9]), (12, [1, 4, 5, 6, 7, 8, 9]), (15, [1, 4, 5, 6, 7, 8, 9, 10])] 80) (codeAt (codeAt (bodyOf Tryz.prog 80) [1, 1, 1, 1, 1, 1, 1, 0, 0, 0]) [1, 0, 1, 1, 1, 0, 0, 0]) (trimK [1, 4, 5, 6, 7, 8, 9, 10] Kt) [(1, (.string text1)), (4, (ptr t4 0)), (5, (.slice flat5a flat5l flat5c)), (6, (.slice row6a row6l row6c)), (7, (.bool del7)), (8, (.bool open8)), (9, (.int .i64 i9)), (10, (.int .i64 j10))] m :=
  (show _ = _ by kernel_rfl : evCode (cfgOf Tryz.prog pureF pureT C [(8, [1, 4, 5, 6, 7, 8, 9]), (12, [1, 4, 5, 6, 7, 8, 9]), (15, [1, 4, 5, 6, 7, 8, 9, 10])] 80) (codeAt (codeAt (bodyOf Tryz.prog 80) [1, 1, 1, 1, 1, 1, 1, 0, 0, 0]) [1, 0, 1, 1, 1, 0, 0, 0]) (trimK [1, 4, 5, 6, 7, 8, 9, 10] Kt) [(1, (.string text1)), (4, (ptr t4 0)), (5, (.slice flat5a flat5l flat5c)), (6, (.slice row6a row6l row6c)), (7, (.bool del7)), (8, (.bool open8)), (9, (.int .i64 i9)), (10, (.int .i64 j10))] m = s80_3 C text1 t4 flat5a flat5l flat5c row6a row6l row6c del7 open8 i9 j10 Kt m).symm ▸ h
def s80_3x4 (C : CallT) (text1 : ByteArray) (t4 : Nat) (flat5a : Option Addr) (flat5l flat5c : Nat) (row6a : Option Addr) (row6l row6c : Nat) (del7 : Bool) (open8 : Bool) (i9 : Int) (j10 : Int) (Kt : Exit → Fr → Mem → Prop) (m : Mem) : Prop :=
  ckS text1 i9 fun ch_26 =>
  ifB (((UInt8.toNat ch_26 : Nat) : Int) == 100)
  (ifB open8
  (stL m t4 0 [(.int .i64 2), (.int .i64 i9), (.slice none 0 0)] fun m_27 =>
  Kt .ret [(1, (.string text1)), (4, (ptr t4 0)), (5, (.slice flat5a flat5l flat5c)), (6, (.slice row6a row6l row6c)), (7, (.bool del7)), (8, (.bool open8)), (9, (.int .i64 i9))] m_27)
  (ifB (decide ((IntKind.wrap .i64 (j10 - i9)) > 1))
  (stL m t4 0 [(.int .i64 2), (.int .i64 (IntKind.wrap .i64 (i9 + 1))), (.slice none 0 0)] fun m_28 =>
  Kt .ret [(1, (.string text1)), (4, (ptr t4 0)), (5, (.slice flat5a flat5l flat5c)), (6, (.slice row6a row6l row6c)), (7, (.bool del7)), (8, (.bool open8)), (9, (.int .i64 i9))] m_28)
  (Kt .normal [(1, (.string text1)), (4, (ptr t4 0)), (5, (.slice flat5a flat5l flat5c)), (6, (.slice row6a row6l row6c)), (7, (.bool true)), (8, (.bool true)), (9, (.int .i64 j10))] m)))
  (C 129 [(.string text1), (.int .i64 i9), (.int .i64 j10)] (fun rm_33 m_33 =>
  ∃ x_29 x_30 x_31 x_32, rm_33 = (.tuple #[(.int .i64 x_29), (.bool x_30), (.int .i64 x_31), (.int .i64 x_32)]) ∧
  ifB (x_31 != 0)
  (stL m_33 t4 0 [(.int .i64 x_31), (.int .i64 x_32), (.slice none 0 0)] fun m_34 =>
  Kt .ret [(1, (.string text1)), (4, (ptr t4 0)), (5, (.slice flat5a flat5l flat5c)), (6, (.slice row6a row6l row6c)), (7, (.bool del7)), (8, (.bool open8)), (9, (.int .i64 i9))] m_34)
  (ifB (x_29 != 0)
  (ifB x_30
  (allocB m_33 (Blk.ofList [(.int .i64 (IntKind.wrap .i64 (0 - x_29)))]) fun b_35 m_36 =>
  rdRow m_36 (some ⟨b_35, 0, none⟩) (1 * 1) fun r_39 =>
  appendC m_36 1 8 [(.int .i64 0)] row6a row6l row6c 1 r_39 fun a_37 c_37 m_38 =>
  Kt .normal [(1, (.string text1)), (4, (ptr t4 0)), (5, (.slice flat5a flat5l flat5c)), (6, (.slice a_37 (row6l + 1) c_37)), (7, (.bool del7)), (8, (.bool true)), (9, (.int .i64 j10))] m_38)
  (allocB m_33 (Blk.ofList [(.int .i64 x_29)]) fun b_40 m_41 =>
  rdRow m_41 (some ⟨b_40, 0, none⟩) (1 * 1) fun r_44 =>
  appendC m_41 1 8 [(.int .i64 0)] row6a row6l row6c 1 r_44 fun a_42 c_42 m_43 =>
  Kt .normal [(1, (.string text1)), (4, (ptr t4 0)), (5, (.slice flat5a flat5l flat5c)), (6, (.slice a_42 (row6l + 1) c_42)), (7, (.bool del7)), (8, (.bool true)), (9, (.int .i64 j10))] m_43))
  (C 130 [(.slice row6a row6l row6c)] (fun rm_47 m_47 =>
  ∃ x_45a x_45l x_45c x_46, rm_47 = (.tuple #[(.slice x_45a x_45l x_45c), (.bool x_46)]) ∧
  ifB x_46
  (ifB del7
  (allocB m_47 (Blk.ofList [(.int .i64 13)]) fun b_48 m_49 =>
  rdRow m_49 (some ⟨b_48, 0, none⟩) (1 * 1) fun r_52 =>
  appendC m_49 1 8 [(.int .i64 0)] flat5a flat5l flat5c 1 r_52 fun a_50 c_50 m_51 =>
  rdRow m_51 x_45a (x_45l * 1) fun r_55 =>
  appendC m_51 1 8 [(.int .i64 0)] a_50 (flat5l + 1) c_50 x_45l r_55 fun a_53 c_53 m_54 =>
  allocB m_54 (Blk.ofList [(.int .i64 0)]) fun b_56 m_57 =>
  rdRow m_57 (some ⟨b_56, 0, none⟩) (1 * 1) fun r_60 =>
  appendC m_57 1 8 [(.int .i64 0)] a_53 ((flat5l + 1) + x_45l) c_53 1 r_60 fun a_58 c_58 m_59 =>
  Kt .normal [(1, (.string text1)), (4, (ptr t4 0)), (5, (.slice a_58 (((flat5l + 1) + x_45l) + 1) c_58)), (6, (.slice none 0 0)), (7, (.bool false)), (8, (.bool false)), (9, (.int .i64 j10))] m_59)
  (rdRow m_47 x_45a (x_45l * 1) fun r_63 =>
  appendC m_47 1 8 [(.int .i64 0)] flat5a flat5l flat5c x_45l r_63 fun a_61 c_61 m_62 =>
  allocB m_62 (Blk.ofList [(.int .i64 0)]) fun b_64 m_65 =>
  rdRow m_65 (some ⟨b_64, 0, none⟩) (1 * 1) fun r_68 =>
  appendC m_65 1 8 [(.int .i64 0)] a_61 (flat5l + x_45l) c_61 1 r_68 fun a_66 c_66 m_67 =>
  Kt .normal [(1, (.string text1)), (4, (ptr t4 0)), (5, (.slice a_66 ((flat5l + x_45l) + 1) c_66)), (6, (.slice none 0 0)), (7, (.bool false)), (8, (.bool false)), (9, (.int .i64 j10))] m_67))
  (Kt .normal [(1, (.string text1)), (4, (ptr t4 0)), (5, (.slice flat5a flat5l flat5c)), (6, (.slice none 0 0)), (7, (.bool false)), (8, (.bool false)), (9, (.int .i64 j10))] m_47)) m_33))) m)
theorem e80_3x4 {C : CallT} {kn : Fr → Mem → Prop} {text1 : ByteArray} {t4 : Nat} {flat5a : Option Addr} {flat5l flat5c : Nat} {row6a : Option Addr} {row6l row6c : Nat} {del7 : Bool} {open8 : Bool} {i9 : Int} {j10 : Int} {Kt : Exit → Fr → Mem → Prop} {m : Mem} : (andThenE kn (kAt (cfgOf Tryz.prog pureF pureT C [(8, [1, 4, 5, 6, 7, 8, 9]), (12, [1, 4, 5, 6, 7, 8, 9]), (15, [1, 4, 5, 6, 7, 8, 9, 10])] 80) (codeAt (bodyOf Tryz.prog 80) [1, 1, 1, 1, 1, 1, 1, 0, 0, 0]) [1, 0, 1, 1, 1, 0, 0] (trimK [1, 4, 5, 6, 7, 8, 9] Kt)) (.exit 4) [(1, (.string text1)), (4, (ptr t4 0)), (5, (.slice flat5a flat5l flat5c)), (6, (.slice row6a row6l row6c)), (7, (.bool del7)), (8, (.bool open8)), (9, (.int .i64 i9)), (10, (.int .i64 j10))] m) = s80_3x4 C text1 t4 flat5a flat5l flat5c row6a row6l row6c del7 open8 i9 j10 Kt m := by kernel_rfl
def F80_1 (text1 : ByteArray) (t4 : Nat) (flat5a : Option Addr) (flat5l flat5c : Nat) (row6a : Option Addr) (row6l row6c : Nat) (del7 : Bool) (open8 : Bool) (i9 : Int) : Fr := [(1, (.string text1)), (4, (ptr t4 0)), (5, (.slice flat5a flat5l flat5c)), (6, (.slice row6a row6l row6c)), (7, (.bool del7)), (8, (.bool open8)), (9, (.int .i64 i9))]
theorem loop80_1 {C : CallT} {γ : Type} {text1 : ByteArray} {t4 : Nat} {K : Value → Mem → Prop} {m : Mem} (J : γ → Option Addr → Nat → Nat → Option Addr → Nat → Nat → Bool → Bool → Int → Mem → Prop) (μ : γ → Option Addr → Nat → Nat → Option Addr → Nat → Nat → Bool → Bool → Int → Nat) (g : γ) {flat5a : Option Addr} {flat5l flat5c : Nat} {row6a : Option Addr} {row6l row6c : Nat} {del7 : Bool} {open8 : Bool} {i9 : Int} (hJ : J g flat5a flat5l flat5c row6a row6l row6c del7 open8 i9 m)
    (hs : ∀ g flat5a flat5l flat5c row6a row6l row6c del7 open8 i9 m, J g flat5a flat5l flat5c row6a row6l row6c del7 open8 i9 m → s80_1 C text1 t4 flat5a flat5l flat5c row6a row6l row6c del7 open8 i9 (andThenE (fun fr m' => ∃ g' flat5a' flat5l' flat5c' row6a' row6l' row6c' del7' open8' i9', fr = F80_1 text1 t4 flat5a' flat5l' flat5c' row6a' row6l' row6c' del7' open8' i9' ∧ J g' flat5a' flat5l' flat5c' row6a' row6l' row6c' del7' open8' i9' m' ∧ μ g' flat5a' flat5l' flat5c' row6a' row6l' row6c' del7' open8' i9' < μ g flat5a flat5l flat5c row6a row6l row6c del7 open8 i9) (kAt (cfgOf Tryz.prog pureF pureT C [(8, [1, 4, 5, 6, 7, 8, 9]), (12, [1, 4, 5, 6, 7, 8, 9]), (15, [1, 4, 5, 6, 7, 8, 9, 10])] 80) (bodyOf Tryz.prog 80) [1, 1, 1, 1, 1, 1, 1, 0, 0] (endK Tryz.prog 80 K))) m) :
    loopE [1, 4, 5, 6, 7, 8, 9] (evCode (cfgOf Tryz.prog pureF pureT C [(8, [1, 4, 5, 6, 7, 8, 9]), (12, [1, 4, 5, 6, 7, 8, 9]), (15, [1, 4, 5, 6, 7, 8, 9, 10])] 80) (codeAt (bodyOf Tryz.prog 80) [1, 1, 1, 1, 1, 1, 1, 0, 0, 0])) (kAt (cfgOf Tryz.prog pureF pureT C [(8, [1, 4, 5, 6, 7, 8, 9]), (12, [1, 4, 5, 6, 7, 8, 9]), (15, [1, 4, 5, 6, 7, 8, 9, 10])] 80) (bodyOf Tryz.prog 80) [1, 1, 1, 1, 1, 1, 1, 0, 0] (endK Tryz.prog 80 K)) [(1, (.string text1)), (4, (ptr t4 0)), (5, (.slice flat5a flat5l flat5c)), (6, (.slice row6a row6l row6c)), (7, (.bool del7)), (8, (.bool open8)), (9, (.int .i64 i9))] m := by
  refine loop_rule (σ := γ × Option Addr × Nat × Nat × Option Addr × Nat × Nat × Bool × Bool × Int) (fun s => F80_1 text1 t4 s.2.1 s.2.2.1 s.2.2.2.1 s.2.2.2.2.1 s.2.2.2.2.2.1 s.2.2.2.2.2.2.1 s.2.2.2.2.2.2.2.1 s.2.2.2.2.2.2.2.2.1 s.2.2.2.2.2.2.2.2.2) (fun s m => J s.1 s.2.1 s.2.2.1 s.2.2.2.1 s.2.2.2.2.1 s.2.2.2.2.2.1 s.2.2.2.2.2.2.1 s.2.2.2.2.2.2.2.1 s.2.2.2.2.2.2.2.2.1 s.2.2.2.2.2.2.2.2.2 m) (fun s => μ s.1 s.2.1 s.2.2.1 s.2.2.2.1 s.2.2.2.2.1 s.2.2.2.2.2.1 s.2.2.2.2.2.2.1 s.2.2.2.2.2.2.2.1 s.2.2.2.2.2.2.2.2.1 s.2.2.2.2.2.2.2.2.2) (g, flat5a, flat5l, flat5c, row6a, row6l, row6c, del7, open8, i9) rfl hJ ?_
  intro s m hJ
  have h := hs s.1 s.2.1 s.2.2.1 s.2.2.2.1 s.2.2.2.2.1 s.2.2.2.2.2.1 s.2.2.2.2.2.2.1 s.2.2.2.2.2.2.2.1 s.2.2.2.2.2.2.2.2.1 s.2.2.2.2.2.2.2.2.2 m hJ
  refine e80_1 ?_
  refine Eq.mp (congrArg (fun B => s80_1 C text1 t4 s.2.1 s.2.2.1 s.2.2.2.1 s.2.2.2.2.1 s.2.2.2.2.2.1 s.2.2.2.2.2.2.1 s.2.2.2.2.2.2.2.1 s.2.2.2.2.2.2.2.2.1 s.2.2.2.2.2.2.2.2.2 (andThenE B (kAt (cfgOf Tryz.prog pureF pureT C [(8, [1, 4, 5, 6, 7, 8, 9]), (12, [1, 4, 5, 6, 7, 8, 9]), (15, [1, 4, 5, 6, 7, 8, 9, 10])] 80) (bodyOf Tryz.prog 80) [1, 1, 1, 1, 1, 1, 1, 0, 0] (endK Tryz.prog 80 K))) m) ?_) h
  funext fr m'
  apply propext
  constructor
  · rintro ⟨g', flat5a', flat5l', flat5c', row6a', row6l', row6c', del7', open8', i9', h1, h2, h3⟩
    exact ⟨(g', flat5a', flat5l', flat5c', row6a', row6l', row6c', del7', open8', i9'), h1, h2, h3⟩
  · rintro ⟨⟨g', flat5a', flat5l', flat5c', row6a', row6l', row6c', del7', open8', i9'⟩, h1, h2, h3⟩
    exact ⟨g', flat5a', flat5l', flat5c', row6a', row6l', row6c', del7', open8', i9', h1, h2, h3⟩
def F80_2 (text1 : ByteArray) (t4 : Nat) (flat5a : Option Addr) (flat5l flat5c : Nat) (row6a : Option Addr) (row6l row6c : Nat) (del7 : Bool) (open8 : Bool) (i9 : Int) : Fr := [(1, (.string text1)), (4, (ptr t4 0)), (5, (.slice flat5a flat5l flat5c)), (6, (.slice row6a row6l row6c)), (7, (.bool del7)), (8, (.bool open8)), (9, (.int .i64 i9))]
theorem loop80_2 {C : CallT} {γ : Type} {text1 : ByteArray} {t4 : Nat} {flat5a : Option Addr} {flat5l flat5c : Nat} {row6a : Option Addr} {row6l row6c : Nat} {del7 : Bool} {open8 : Bool} {Kt : Exit → Fr → Mem → Prop} {m : Mem} (J : γ → Int → Mem → Prop) (μ : γ → Int → Nat) (g : γ) {i9 : Int} (hJ : J g i9 m)
    (hs : ∀ g i9 m, J g i9 m → s80_2 C text1 t4 flat5a flat5l flat5c row6a row6l row6c del7 open8 i9 (andThenE (fun fr m' => ∃ g' i9', fr = F80_2 text1 t4 flat5a flat5l flat5c row6a row6l row6c del7 open8 i9' ∧ J g' i9' m' ∧ μ g' i9' < μ g i9) (kAt (cfgOf Tryz.prog pureF pureT C [(8, [1, 4, 5, 6, 7, 8, 9]), (12, [1, 4, 5, 6, 7, 8, 9]), (15, [1, 4, 5, 6, 7, 8, 9, 10])] 80) (codeAt (bodyOf Tryz.prog 80) [1, 1, 1, 1, 1, 1, 1, 0, 0, 0]) [1, 0, 1, 0, 1, 0, 0, 0] (trimK [1, 4, 5, 6, 7, 8, 9] Kt))) m) :
    loopE [1, 4, 5, 6, 7, 8, 9] (evCode (cfgOf Tryz.prog pureF pureT C [(8, [1, 4, 5, 6, 7, 8, 9]), (12, [1, 4, 5, 6, 7, 8, 9]), (15, [1, 4, 5, 6, 7, 8, 9, 10])] 80) (codeAt (codeAt (bodyOf Tryz.prog 80) [1, 1, 1, 1, 1, 1, 1, 0, 0, 0]) [1, 0, 1, 0, 1, 0, 0, 0, 0])) (kAt (cfgOf Tryz.prog pureF pureT C [(8, [1, 4, 5, 6, 7, 8, 9]), (12, [1, 4, 5, 6, 7, 8, 9]), (15, [1, 4, 5, 6, 7, 8, 9, 10])] 80) (codeAt (bodyOf Tryz.prog 80) [1, 1, 1, 1, 1, 1, 1, 0, 0, 0]) [1, 0, 1, 0, 1, 0, 0, 0] (trimK [1, 4, 5, 6, 7, 8, 9] Kt)) [(1, (.string text1)), (4, (ptr t4 0)), (5, (.slice flat5a flat5l flat5c)), (6, (.slice row6a row6l row6c)), (7, (.bool del7)), (8, (.bool open8)), (9, (.int .i64 i9))] m := by
  refine loop_rule (σ := γ × Int) (fun s => F80_2 text1 t4 flat5a flat5l flat5c row6a row6l row6c del7 open8 s.2) (fun s m => J s.1 s.2 m) (fun s => μ s.1 s.2) (g, i9) rfl hJ ?_
  intro s m hJ
  have h := hs s.1 s.2 m hJ
  refine e80_2 ?_
  refine Eq.mp (congrArg (fun B => s80_2 C text1 t4 flat5a flat5l flat5c row6a row6l row6c del7 open8 s.2 (andThenE B (kAt (cfgOf Tryz.prog pureF pureT C [(8, [1, 4, 5, 6, 7, 8, 9]), (12, [1, 4, 5, 6, 7, 8, 9]), (15, [1, 4, 5, 6, 7, 8, 9, 10])] 80) (codeAt (bodyOf Tryz.prog 80) [1, 1, 1, 1, 1, 1, 1, 0, 0, 0]) [1, 0, 1, 0, 1, 0, 0, 0] (trimK [1, 4, 5, 6, 7, 8, 9] Kt))) m) ?_) h
  funext fr m'
  apply propext
  constructor
  · rintro ⟨g', i9', h1, h2, h3⟩
    exact ⟨(g', i9'), h1, h2, h3⟩
  · rintro ⟨⟨g', i9'⟩, h1, h2, h3⟩
    exact ⟨g', i9', h1, h2, h3⟩
def F80_3 (text1 : ByteArray) (t4 : Nat) (flat5a : Option Addr) (flat5l flat5c : Nat) (row6a : Option Addr) (row6l row6c : Nat) (del7 : Bool) (open8 : Bool) (i9 : Int) (j10 : Int) : Fr := [(1, (.string text1)), (4, (ptr t4 0)), (5, (.slice flat5a flat5l flat5c)), (6, (.slice row6a row6l row6c)), (7, (.bool del7)), (8, (.bool open8)), (9, (.int .i64 i9)), (10, (.int .i64 j10))]
theorem loop80_3 {C : CallT} {γ : Type} {text1 : ByteArray} {t4 : Nat} {flat5a : Option Addr} {flat5l flat5c : Nat} {row6a : Option Addr} {row6l row6c : Nat} {del7 : Bool} {open8 : Bool} {i9 : Int} {Kt : Exit → Fr → Mem → Prop} {m : Mem} (J : γ → Int → Mem → Prop) (μ : γ → Int → Nat) (g : γ) {j10 : Int} (hJ : J g j10 m)
    (hs : ∀ g j10 m, J g j10 m → s80_3 C text1 t4 flat5a flat5l flat5c row6a row6l row6c del7 open8 i9 j10 (andThenE (fun fr m' => ∃ g' j10', fr = F80_3 text1 t4 flat5a flat5l flat5c row6a row6l row6c del7 open8 i9 j10' ∧ J g' j10' m' ∧ μ g' j10' < μ g j10) (kAt (cfgOf Tryz.prog pureF pureT C [(8, [1, 4, 5, 6, 7, 8, 9]), (12, [1, 4, 5, 6, 7, 8, 9]), (15, [1, 4, 5, 6, 7, 8, 9, 10])] 80) (codeAt (bodyOf Tryz.prog 80) [1, 1, 1, 1, 1, 1, 1, 0, 0, 0]) [1, 0, 1, 1, 1, 0, 0] (trimK [1, 4, 5, 6, 7, 8, 9] Kt))) m) :
    loopE [1, 4, 5, 6, 7, 8, 9, 10] (evCode (cfgOf Tryz.prog pureF pureT C [(8, [1, 4, 5, 6, 7, 8, 9]), (12, [1, 4, 5, 6, 7, 8, 9]), (15, [1, 4, 5, 6, 7, 8, 9, 10])] 80) (codeAt (codeAt (bodyOf Tryz.prog 80) [1, 1, 1, 1, 1, 1, 1, 0, 0, 0]) [1, 0, 1, 1, 1, 0, 0, 0])) (kAt (cfgOf Tryz.prog pureF pureT C [(8, [1, 4, 5, 6, 7, 8, 9]), (12, [1, 4, 5, 6, 7, 8, 9]), (15, [1, 4, 5, 6, 7, 8, 9, 10])] 80) (codeAt (bodyOf Tryz.prog 80) [1, 1, 1, 1, 1, 1, 1, 0, 0, 0]) [1, 0, 1, 1, 1, 0, 0] (trimK [1, 4, 5, 6, 7, 8, 9] Kt)) [(1, (.string text1)), (4, (ptr t4 0)), (5, (.slice flat5a flat5l flat5c)), (6, (.slice row6a row6l row6c)), (7, (.bool del7)), (8, (.bool open8)), (9, (.int .i64 i9)), (10, (.int .i64 j10))] m := by
  refine loop_rule (σ := γ × Int) (fun s => F80_3 text1 t4 flat5a flat5l flat5c row6a row6l row6c del7 open8 i9 s.2) (fun s m => J s.1 s.2 m) (fun s => μ s.1 s.2) (g, j10) rfl hJ ?_
  intro s m hJ
  have h := hs s.1 s.2 m hJ
  refine e80_3 ?_
  refine Eq.mp (congrArg (fun B => s80_3 C text1 t4 flat5a flat5l flat5c row6a row6l row6c del7 open8 i9 s.2 (andThenE B (kAt (cfgOf Tryz.prog pureF pureT C [(8, [1, 4, 5, 6, 7, 8, 9]), (12, [1, 4, 5, 6, 7, 8, 9]), (15, [1, 4, 5, 6, 7, 8, 9, 10])] 80) (codeAt (bodyOf Tryz.prog 80) [1, 1, 1, 1, 1, 1, 1, 0, 0, 0]) [1, 0, 1, 1, 1, 0, 0] (trimK [1, 4, 5, 6, 7, 8, 9] Kt))) m) ?_) h
  funext fr m'
  apply propext
  constructor
  · rintro ⟨g', j10', h1, h2, h3⟩
    exact ⟨(g', j10'), h1, h2, h3⟩
  · rintro ⟨⟨g', j10'⟩, h1, h2, h3⟩
    exact ⟨g', j10', h1, h2, h3⟩

def s81 (C : CallT) (p0 : Nat) (flat1a : Option Addr) (flat1l flat1c : Nat) (K : Value → Mem → Prop) (m : Mem) : Prop :=
  ldInt .i64 m p0 1 fun x_1 =>
  st m p0 1 (.int .i64 (IntKind.wrap .i64 (x_1 + 1))) fun m_2 =>
  ifB (decide (((flat1l : Nat) : Int) > 262144))
  (K (.tuple #[(.string (ByteArray.mk #[])), (.int .i64 1)]) m_2)
  (C 115 [(.slice flat1a flat1l flat1c)] (fun rm_4 m_4 =>
  ∃ x_3, rm_4 = (.int .i64 x_3) ∧
  ifB (x_3 != 0)
  (K (.tuple #[(.string (ByteArray.mk #[])), (.int .i64 6)]) m_4)
  (loopE [1, 6, 7] (evCode (cfgOf Tryz.prog pureF pureT C [(8, [1, 6, 7])] 81) (codeAt (bodyOf Tryz.prog 81) [1, 1, 1, 1, 1, 0, 1, 0, 0])) (kAt (cfgOf Tryz.prog pureF pureT C [(8, [1, 6, 7])] 81) (bodyOf Tryz.prog 81) [1, 1, 1, 1, 1, 0, 1, 0] (endK Tryz.prog 81 K)) [(1, (.slice flat1a flat1l flat1c)), (6, (.slice none 0 0)), (7, (.int .i64 0))] m_4)) m_2)
theorem e81 (C : CallT) (p0 : Nat) (flat1a : Option Addr) (flat1l flat1c : Nat) (K : Value → Mem → Prop) (m : Mem) : evFn Tryz.prog pureF pureT C [(8, [1, 6, 7])] 81 [(ptr p0 0), (.slice flat1a flat1l flat1c)] K m = s81 C p0 flat1a flat1l flat1c K m := by kernel_rfl
theorem call81 {W0 : World} {p0 : Nat} {flat1a : Option Addr} {flat1l flat1c : Nat} {K : Value → Mem → Prop} {m : Mem} (h : s81 (callOK Tryz.prog W0) p0 flat1a flat1l flat1c K m) : callOK Tryz.prog W0 81 [(ptr p0 0), (.slice flat1a flat1l flat1c)] K m :=
  evFn_sound pureOk mixedP (fun w => Tryz.call81 _ w) ((e81 (callOK Tryz.prog W0) p0 flat1a flat1l flat1c K m).symm ▸ h)
def s81_1 (C : CallT) (flat1a : Option Addr) (flat1l flat1c : Nat) (s6a : Option Addr) (s6l s6c : Nat) (i7 : Int) (Kt : Exit → Fr → Mem → Prop) (m : Mem) : Prop :=
  ifB (decide (i7 < ((flat1l : Nat) : Int)))
  (ckP flat1a fun b_5 o_5 =>
  ckI i7 flat1l fun j_6 =>
  ldInt .i64 m b_5 (o_5 + j_6) fun x_7 =>
  ifB (x_7 == 13)
  (appendC m 1 1 [(.int .u8 0)] s6a s6l s6c (ByteArray.size (ByteArray.mk #[100, 32])) (bytesV (ByteArray.mk #[100, 32])) fun a_8 c_8 m_9 =>
  Kt .normal [(1, (.slice flat1a flat1l flat1c)), (6, (.slice a_8 (s6l + ByteArray.size (ByteArray.mk #[100, 32])) c_8)), (7, (.int .i64 (IntKind.wrap .i64 (i7 + 1))))] m_9)
  (ifB (x_7 == 0)
  (appendC m 1 1 [(.int .u8 0)] s6a s6l s6c (ByteArray.size (ByteArray.mk #[48, 10])) (bytesV (ByteArray.mk #[48, 10])) fun a_10 c_10 m_11 =>
  Kt .normal [(1, (.slice flat1a flat1l flat1c)), (6, (.slice a_10 (s6l + ByteArray.size (ByteArray.mk #[48, 10])) c_10)), (7, (.int .i64 (IntKind.wrap .i64 (i7 + 1))))] m_11)
  (C 131 [(.int .i64 x_7)] (fun rm_13 m_13 =>
  ∃ x_12, rm_13 = (.string x_12) ∧
  appendC m_13 1 1 [(.int .u8 0)] s6a s6l s6c (ByteArray.size x_12) (bytesV x_12) fun a_14 c_14 m_15 =>
  allocB m_15 (Blk.ofList [(.int .u8 32)]) fun b_16 m_17 =>
  rdRow m_17 (some ⟨b_16, 0, none⟩) (1 * 1) fun r_20 =>
  appendC m_17 1 1 [(.int .u8 0)] a_14 (s6l + ByteArray.size x_12) c_14 1 r_20 fun a_18 c_18 m_19 =>
  Kt .normal [(1, (.slice flat1a flat1l flat1c)), (6, (.slice a_18 ((s6l + ByteArray.size x_12) + 1) c_18)), (7, (.int .i64 (IntKind.wrap .i64 (i7 + 1))))] m_19) m)))
  (Kt (.exit 0) [(1, (.slice flat1a flat1l flat1c)), (6, (.slice s6a s6l s6c)), (7, (.int .i64 i7))] m)
theorem e81_1 {C : CallT} {flat1a : Option Addr} {flat1l flat1c : Nat} {s6a : Option Addr} {s6l s6c : Nat} {i7 : Int} {Kt : Exit → Fr → Mem → Prop} {m : Mem} (h : s81_1 C flat1a flat1l flat1c s6a s6l s6c i7 Kt m) : evCode (cfgOf Tryz.prog pureF pureT C [(8, [1, 6, 7])] 81) (codeAt (bodyOf Tryz.prog 81) [1, 1, 1, 1, 1, 0, 1, 0, 0]) (trimK [1, 6, 7] Kt) [(1, (.slice flat1a flat1l flat1c)), (6, (.slice s6a s6l s6c)), (7, (.int .i64 i7))] m :=
  (show _ = _ by kernel_rfl : evCode (cfgOf Tryz.prog pureF pureT C [(8, [1, 6, 7])] 81) (codeAt (bodyOf Tryz.prog 81) [1, 1, 1, 1, 1, 0, 1, 0, 0]) (trimK [1, 6, 7] Kt) [(1, (.slice flat1a flat1l flat1c)), (6, (.slice s6a s6l s6c)), (7, (.int .i64 i7))] m = s81_1 C flat1a flat1l flat1c s6a s6l s6c i7 Kt m).symm ▸ h
def s81_1x0 (C : CallT) (flat1a : Option Addr) (flat1l flat1c : Nat) (s6a : Option Addr) (s6l s6c : Nat) (i7 : Int) (K : Value → Mem → Prop) (m : Mem) : Prop :=
  rdBytes m s6a s6l fun s_21 =>
  K (.tuple #[(.string s_21), (.int .i64 0)]) m
theorem e81_1x0 {C : CallT} {kn : Fr → Mem → Prop} {flat1a : Option Addr} {flat1l flat1c : Nat} {s6a : Option Addr} {s6l s6c : Nat} {i7 : Int} {K : Value → Mem → Prop} {m : Mem} : (andThenE kn (kAt (cfgOf Tryz.prog pureF pureT C [(8, [1, 6, 7])] 81) (bodyOf Tryz.prog 81) [1, 1, 1, 1, 1, 0, 1, 0] (endK Tryz.prog 81 K)) (.exit 0) [(1, (.slice flat1a flat1l flat1c)), (6, (.slice s6a s6l s6c)), (7, (.int .i64 i7))] m) = s81_1x0 C flat1a flat1l flat1c s6a s6l s6c i7 K m := by kernel_rfl
def F81_1 (flat1a : Option Addr) (flat1l flat1c : Nat) (s6a : Option Addr) (s6l s6c : Nat) (i7 : Int) : Fr := [(1, (.slice flat1a flat1l flat1c)), (6, (.slice s6a s6l s6c)), (7, (.int .i64 i7))]
theorem loop81_1 {C : CallT} {γ : Type} {flat1a : Option Addr} {flat1l flat1c : Nat} {K : Value → Mem → Prop} {m : Mem} (J : γ → Option Addr → Nat → Nat → Int → Mem → Prop) (μ : γ → Option Addr → Nat → Nat → Int → Nat) (g : γ) {s6a : Option Addr} {s6l s6c : Nat} {i7 : Int} (hJ : J g s6a s6l s6c i7 m)
    (hs : ∀ g s6a s6l s6c i7 m, J g s6a s6l s6c i7 m → s81_1 C flat1a flat1l flat1c s6a s6l s6c i7 (andThenE (fun fr m' => ∃ g' s6a' s6l' s6c' i7', fr = F81_1 flat1a flat1l flat1c s6a' s6l' s6c' i7' ∧ J g' s6a' s6l' s6c' i7' m' ∧ μ g' s6a' s6l' s6c' i7' < μ g s6a s6l s6c i7) (kAt (cfgOf Tryz.prog pureF pureT C [(8, [1, 6, 7])] 81) (bodyOf Tryz.prog 81) [1, 1, 1, 1, 1, 0, 1, 0] (endK Tryz.prog 81 K))) m) :
    loopE [1, 6, 7] (evCode (cfgOf Tryz.prog pureF pureT C [(8, [1, 6, 7])] 81) (codeAt (bodyOf Tryz.prog 81) [1, 1, 1, 1, 1, 0, 1, 0, 0])) (kAt (cfgOf Tryz.prog pureF pureT C [(8, [1, 6, 7])] 81) (bodyOf Tryz.prog 81) [1, 1, 1, 1, 1, 0, 1, 0] (endK Tryz.prog 81 K)) [(1, (.slice flat1a flat1l flat1c)), (6, (.slice s6a s6l s6c)), (7, (.int .i64 i7))] m := by
  refine loop_rule (σ := γ × Option Addr × Nat × Nat × Int) (fun s => F81_1 flat1a flat1l flat1c s.2.1 s.2.2.1 s.2.2.2.1 s.2.2.2.2) (fun s m => J s.1 s.2.1 s.2.2.1 s.2.2.2.1 s.2.2.2.2 m) (fun s => μ s.1 s.2.1 s.2.2.1 s.2.2.2.1 s.2.2.2.2) (g, s6a, s6l, s6c, i7) rfl hJ ?_
  intro s m hJ
  have h := hs s.1 s.2.1 s.2.2.1 s.2.2.2.1 s.2.2.2.2 m hJ
  refine e81_1 ?_
  refine Eq.mp (congrArg (fun B => s81_1 C flat1a flat1l flat1c s.2.1 s.2.2.1 s.2.2.2.1 s.2.2.2.2 (andThenE B (kAt (cfgOf Tryz.prog pureF pureT C [(8, [1, 6, 7])] 81) (bodyOf Tryz.prog 81) [1, 1, 1, 1, 1, 0, 1, 0] (endK Tryz.prog 81 K))) m) ?_) h
  funext fr m'
  apply propext
  constructor
  · rintro ⟨g', s6a', s6l', s6c', i7', h1, h2, h3⟩
    exact ⟨(g', s6a', s6l', s6c', i7'), h1, h2, h3⟩
  · rintro ⟨⟨g', s6a', s6l', s6c', i7'⟩, h1, h2, h3⟩
    exact ⟨g', s6a', s6l', s6c', i7', h1, h2, h3⟩

def s82 (C : CallT) (f0a : Option Addr) (f0l f0c : Nat) (K : Value → Mem → Prop) (m : Mem) : Prop :=
  allocB m (zeroBlk Tryz.prog 153) fun b_1 m_2 =>
  stL m_2 b_1 0 [(.bool false), (.slice none 0 0)] fun m_3 =>
  loopE [0, 3, 4, 5] (evCode (cfgOf Tryz.prog pureF pureT C [(4, [0, 3, 4, 5])] 82) (codeAt (bodyOf Tryz.prog 82) [1, 1, 1, 0, 1, 0, 0])) (kAt (cfgOf Tryz.prog pureF pureT C [(4, [0, 3, 4, 5])] 82) (bodyOf Tryz.prog 82) [1, 1, 1, 0, 1, 0] (endK Tryz.prog 82 K)) [(0, (.slice f0a f0l f0c)), (3, (.slice none 0 0)), (4, (ptr b_1 0)), (5, (.int .i64 0))] m_3
theorem e82 (C : CallT) (f0a : Option Addr) (f0l f0c : Nat) (K : Value → Mem → Prop) (m : Mem) : evFn Tryz.prog pureF pureT C [(4, [0, 3, 4, 5])] 82 [(.slice f0a f0l f0c)] K m = s82 C f0a f0l f0c K m := by kernel_rfl
theorem call82 {W0 : World} {f0a : Option Addr} {f0l f0c : Nat} {K : Value → Mem → Prop} {m : Mem} (h : s82 (callOK Tryz.prog W0) f0a f0l f0c K m) : callOK Tryz.prog W0 82 [(.slice f0a f0l f0c)] K m :=
  evFn_sound pureOk mixedP (fun w => Tryz.call82 _ w) ((e82 (callOK Tryz.prog W0) f0a f0l f0c K m).symm ▸ h)
def s82_1 (C : CallT) (f0a : Option Addr) (f0l f0c : Nat) (out3a : Option Addr) (out3l out3c : Nat) (cur4 : Nat) (i5 : Int) (Kt : Exit → Fr → Mem → Prop) (m : Mem) : Prop :=
  ifB (decide (i5 < ((f0l : Nat) : Int)))
  (ckP f0a fun b_4 o_4 =>
  ckI i5 f0l fun j_5 =>
  ldInt .i64 m b_4 (o_4 + j_5) fun x_6 =>
  ifB (x_6 == 13)
  (st m cur4 0 (.bool true) fun m_7 =>
  Kt .normal [(0, (.slice f0a f0l f0c)), (3, (.slice out3a out3l out3c)), (4, (ptr cur4 0)), (5, (.int .i64 (IntKind.wrap .i64 (i5 + 1))))] m_7)
  (ckP f0a fun b_8 o_8 =>
  ckI i5 f0l fun j_9 =>
  ldInt .i64 m b_8 (o_8 + j_9) fun x_10 =>
  ifB (x_10 == 0)
  (ldBool m cur4 0 fun y_11 =>
  ldSl m cur4 1 fun l_12a l_12l l_12c =>
  allocB m (Blk.ofList [(.bool y_11), (.slice l_12a l_12l l_12c)]) fun b_13 m_14 =>
  rdRow m_14 (some ⟨b_13, 0, none⟩) (1 * 2) fun r_17 =>
  appendC m_14 2 32 [(.bool false), (.slice none 0 0)] out3a out3l out3c 1 r_17 fun a_15 c_15 m_16 =>
  stL m_16 cur4 0 [(.bool false), (.slice none 0 0)] fun m_18 =>
  Kt .normal [(0, (.slice f0a f0l f0c)), (3, (.slice a_15 (out3l + 1) c_15)), (4, (ptr cur4 0)), (5, (.int .i64 (IntKind.wrap .i64 (i5 + 1))))] m_18)
  (ldSl m cur4 1 fun l_19a l_19l l_19c =>
  ckP f0a fun b_20 o_20 =>
  ckI i5 f0l fun j_21 =>
  ldInt .i64 m b_20 (o_20 + j_21) fun x_22 =>
  allocB m (Blk.ofList [(.int .i64 x_22)]) fun b_23 m_24 =>
  rdRow m_24 (some ⟨b_23, 0, none⟩) (1 * 1) fun r_27 =>
  appendC m_24 1 8 [(.int .i64 0)] l_19a l_19l l_19c 1 r_27 fun a_25 c_25 m_26 =>
  st m_26 cur4 1 (.slice a_25 (l_19l + 1) c_25) fun m_28 =>
  Kt .normal [(0, (.slice f0a f0l f0c)), (3, (.slice out3a out3l out3c)), (4, (ptr cur4 0)), (5, (.int .i64 (IntKind.wrap .i64 (i5 + 1))))] m_28)))
  (Kt (.exit 0) [(0, (.slice f0a f0l f0c)), (3, (.slice out3a out3l out3c)), (4, (ptr cur4 0)), (5, (.int .i64 i5))] m)
theorem e82_1 {C : CallT} {f0a : Option Addr} {f0l f0c : Nat} {out3a : Option Addr} {out3l out3c : Nat} {cur4 : Nat} {i5 : Int} {Kt : Exit → Fr → Mem → Prop} {m : Mem} (h : s82_1 C f0a f0l f0c out3a out3l out3c cur4 i5 Kt m) : evCode (cfgOf Tryz.prog pureF pureT C [(4, [0, 3, 4, 5])] 82) (codeAt (bodyOf Tryz.prog 82) [1, 1, 1, 0, 1, 0, 0]) (trimK [0, 3, 4, 5] Kt) [(0, (.slice f0a f0l f0c)), (3, (.slice out3a out3l out3c)), (4, (ptr cur4 0)), (5, (.int .i64 i5))] m :=
  (show _ = _ by kernel_rfl : evCode (cfgOf Tryz.prog pureF pureT C [(4, [0, 3, 4, 5])] 82) (codeAt (bodyOf Tryz.prog 82) [1, 1, 1, 0, 1, 0, 0]) (trimK [0, 3, 4, 5] Kt) [(0, (.slice f0a f0l f0c)), (3, (.slice out3a out3l out3c)), (4, (ptr cur4 0)), (5, (.int .i64 i5))] m = s82_1 C f0a f0l f0c out3a out3l out3c cur4 i5 Kt m).symm ▸ h
def s82_1x0 (C : CallT) (f0a : Option Addr) (f0l f0c : Nat) (out3a : Option Addr) (out3l out3c : Nat) (cur4 : Nat) (i5 : Int) (K : Value → Mem → Prop) (m : Mem) : Prop :=
  K (.slice out3a out3l out3c) m
theorem e82_1x0 {C : CallT} {kn : Fr → Mem → Prop} {f0a : Option Addr} {f0l f0c : Nat} {out3a : Option Addr} {out3l out3c : Nat} {cur4 : Nat} {i5 : Int} {K : Value → Mem → Prop} {m : Mem} : (andThenE kn (kAt (cfgOf Tryz.prog pureF pureT C [(4, [0, 3, 4, 5])] 82) (bodyOf Tryz.prog 82) [1, 1, 1, 0, 1, 0] (endK Tryz.prog 82 K)) (.exit 0) [(0, (.slice f0a f0l f0c)), (3, (.slice out3a out3l out3c)), (4, (ptr cur4 0)), (5, (.int .i64 i5))] m) = s82_1x0 C f0a f0l f0c out3a out3l out3c cur4 i5 K m := by kernel_rfl
def F82_1 (f0a : Option Addr) (f0l f0c : Nat) (out3a : Option Addr) (out3l out3c : Nat) (cur4 : Nat) (i5 : Int) : Fr := [(0, (.slice f0a f0l f0c)), (3, (.slice out3a out3l out3c)), (4, (ptr cur4 0)), (5, (.int .i64 i5))]
theorem loop82_1 {C : CallT} {γ : Type} {f0a : Option Addr} {f0l f0c : Nat} {cur4 : Nat} {K : Value → Mem → Prop} {m : Mem} (J : γ → Option Addr → Nat → Nat → Int → Mem → Prop) (μ : γ → Option Addr → Nat → Nat → Int → Nat) (g : γ) {out3a : Option Addr} {out3l out3c : Nat} {i5 : Int} (hJ : J g out3a out3l out3c i5 m)
    (hs : ∀ g out3a out3l out3c i5 m, J g out3a out3l out3c i5 m → s82_1 C f0a f0l f0c out3a out3l out3c cur4 i5 (andThenE (fun fr m' => ∃ g' out3a' out3l' out3c' i5', fr = F82_1 f0a f0l f0c out3a' out3l' out3c' cur4 i5' ∧ J g' out3a' out3l' out3c' i5' m' ∧ μ g' out3a' out3l' out3c' i5' < μ g out3a out3l out3c i5) (kAt (cfgOf Tryz.prog pureF pureT C [(4, [0, 3, 4, 5])] 82) (bodyOf Tryz.prog 82) [1, 1, 1, 0, 1, 0] (endK Tryz.prog 82 K))) m) :
    loopE [0, 3, 4, 5] (evCode (cfgOf Tryz.prog pureF pureT C [(4, [0, 3, 4, 5])] 82) (codeAt (bodyOf Tryz.prog 82) [1, 1, 1, 0, 1, 0, 0])) (kAt (cfgOf Tryz.prog pureF pureT C [(4, [0, 3, 4, 5])] 82) (bodyOf Tryz.prog 82) [1, 1, 1, 0, 1, 0] (endK Tryz.prog 82 K)) [(0, (.slice f0a f0l f0c)), (3, (.slice out3a out3l out3c)), (4, (ptr cur4 0)), (5, (.int .i64 i5))] m := by
  refine loop_rule (σ := γ × Option Addr × Nat × Nat × Int) (fun s => F82_1 f0a f0l f0c s.2.1 s.2.2.1 s.2.2.2.1 cur4 s.2.2.2.2) (fun s m => J s.1 s.2.1 s.2.2.1 s.2.2.2.1 s.2.2.2.2 m) (fun s => μ s.1 s.2.1 s.2.2.1 s.2.2.2.1 s.2.2.2.2) (g, out3a, out3l, out3c, i5) rfl hJ ?_
  intro s m hJ
  have h := hs s.1 s.2.1 s.2.2.1 s.2.2.2.1 s.2.2.2.2 m hJ
  refine e82_1 ?_
  refine Eq.mp (congrArg (fun B => s82_1 C f0a f0l f0c s.2.1 s.2.2.1 s.2.2.2.1 cur4 s.2.2.2.2 (andThenE B (kAt (cfgOf Tryz.prog pureF pureT C [(4, [0, 3, 4, 5])] 82) (bodyOf Tryz.prog 82) [1, 1, 1, 0, 1, 0] (endK Tryz.prog 82 K))) m) ?_) h
  funext fr m'
  apply propext
  constructor
  · rintro ⟨g', out3a', out3l', out3c', i5', h1, h2, h3⟩
    exact ⟨(g', out3a', out3l', out3c', i5'), h1, h2, h3⟩
  · rintro ⟨⟨g', out3a', out3l', out3c', i5'⟩, h1, h2, h3⟩
    exact ⟨g', out3a', out3l', out3c', i5', h1, h2, h3⟩

def s83 (C : CallT) (rows0a : Option Addr) (rows0l rows0c : Nat) (K : Value → Mem → Prop) (m : Mem) : Prop :=
  loopE [0, 3, 4] (evCode (cfgOf Tryz.prog pureF pureT C [(3, [0, 3, 4])] 83) (codeAt (bodyOf Tryz.prog 83) [1, 1, 0, 1, 0, 0])) (kAt (cfgOf Tryz.prog pureF pureT C [(3, [0, 3, 4])] 83) (bodyOf Tryz.prog 83) [1, 1, 0, 1, 0] (endK Tryz.prog 83 K)) [(0, (.slice rows0a rows0l rows0c)), (3, (.int .i64 0)), (4, (.int .i64 0))] m
theorem e83 (C : CallT) (rows0a : Option Addr) (rows0l rows0c : Nat) (K : Value → Mem → Prop) (m : Mem) : evFn Tryz.prog pureF pureT C [(3, [0, 3, 4])] 83 [(.slice rows0a rows0l rows0c)] K m = s83 C rows0a rows0l rows0c K m := by kernel_rfl
theorem call83 {W0 : World} {rows0a : Option Addr} {rows0l rows0c : Nat} {K : Value → Mem → Prop} {m : Mem} (h : s83 (callOK Tryz.prog W0) rows0a rows0l rows0c K m) : callOK Tryz.prog W0 83 [(.slice rows0a rows0l rows0c)] K m :=
  evFn_sound pureOk mixedP (fun w => Tryz.call83 _ w) ((e83 (callOK Tryz.prog W0) rows0a rows0l rows0c K m).symm ▸ h)
def s83_1 (C : CallT) (rows0a : Option Addr) (rows0l rows0c : Nat) (n3 : Int) (i4 : Int) (Kt : Exit → Fr → Mem → Prop) (m : Mem) : Prop :=
  ifB (decide (i4 < ((rows0l : Nat) : Int)))
  (ckP rows0a fun b_1 o_1 =>
  ckI i4 rows0l fun j_2 =>
  ldBool m b_1 (o_1 + (j_2 * 2)) fun y_3 =>
  ifB (!y_3)
  (Kt .normal [(0, (.slice rows0a rows0l rows0c)), (3, (.int .i64 (IntKind.wrap .i64 (n3 + 1)))), (4, (.int .i64 (IntKind.wrap .i64 (i4 + 1))))] m)
  (Kt .normal [(0, (.slice rows0a rows0l rows0c)), (3, (.int .i64 n3)), (4, (.int .i64 (IntKind.wrap .i64 (i4 + 1))))] m))
  (Kt (.exit 0) [(0, (.slice rows0a rows0l rows0c)), (3, (.int .i64 n3)), (4, (.int .i64 i4))] m)
theorem e83_1 {C : CallT} {rows0a : Option Addr} {rows0l rows0c : Nat} {n3 : Int} {i4 : Int} {Kt : Exit → Fr → Mem → Prop} {m : Mem} (h : s83_1 C rows0a rows0l rows0c n3 i4 Kt m) : evCode (cfgOf Tryz.prog pureF pureT C [(3, [0, 3, 4])] 83) (codeAt (bodyOf Tryz.prog 83) [1, 1, 0, 1, 0, 0]) (trimK [0, 3, 4] Kt) [(0, (.slice rows0a rows0l rows0c)), (3, (.int .i64 n3)), (4, (.int .i64 i4))] m :=
  (show _ = _ by kernel_rfl : evCode (cfgOf Tryz.prog pureF pureT C [(3, [0, 3, 4])] 83) (codeAt (bodyOf Tryz.prog 83) [1, 1, 0, 1, 0, 0]) (trimK [0, 3, 4] Kt) [(0, (.slice rows0a rows0l rows0c)), (3, (.int .i64 n3)), (4, (.int .i64 i4))] m = s83_1 C rows0a rows0l rows0c n3 i4 Kt m).symm ▸ h
def s83_1x0 (C : CallT) (rows0a : Option Addr) (rows0l rows0c : Nat) (n3 : Int) (i4 : Int) (K : Value → Mem → Prop) (m : Mem) : Prop :=
  K (.int .i64 n3) m
theorem e83_1x0 {C : CallT} {kn : Fr → Mem → Prop} {rows0a : Option Addr} {rows0l rows0c : Nat} {n3 : Int} {i4 : Int} {K : Value → Mem → Prop} {m : Mem} : (andThenE kn (kAt (cfgOf Tryz.prog pureF pureT C [(3, [0, 3, 4])] 83) (bodyOf Tryz.prog 83) [1, 1, 0, 1, 0] (endK Tryz.prog 83 K)) (.exit 0) [(0, (.slice rows0a rows0l rows0c)), (3, (.int .i64 n3)), (4, (.int .i64 i4))] m) = s83_1x0 C rows0a rows0l rows0c n3 i4 K m := by kernel_rfl
def F83_1 (rows0a : Option Addr) (rows0l rows0c : Nat) (n3 : Int) (i4 : Int) : Fr := [(0, (.slice rows0a rows0l rows0c)), (3, (.int .i64 n3)), (4, (.int .i64 i4))]
theorem loop83_1 {C : CallT} {γ : Type} {rows0a : Option Addr} {rows0l rows0c : Nat} {K : Value → Mem → Prop} {m : Mem} (J : γ → Int → Int → Mem → Prop) (μ : γ → Int → Int → Nat) (g : γ) {n3 : Int} {i4 : Int} (hJ : J g n3 i4 m)
    (hs : ∀ g n3 i4 m, J g n3 i4 m → s83_1 C rows0a rows0l rows0c n3 i4 (andThenE (fun fr m' => ∃ g' n3' i4', fr = F83_1 rows0a rows0l rows0c n3' i4' ∧ J g' n3' i4' m' ∧ μ g' n3' i4' < μ g n3 i4) (kAt (cfgOf Tryz.prog pureF pureT C [(3, [0, 3, 4])] 83) (bodyOf Tryz.prog 83) [1, 1, 0, 1, 0] (endK Tryz.prog 83 K))) m) :
    loopE [0, 3, 4] (evCode (cfgOf Tryz.prog pureF pureT C [(3, [0, 3, 4])] 83) (codeAt (bodyOf Tryz.prog 83) [1, 1, 0, 1, 0, 0])) (kAt (cfgOf Tryz.prog pureF pureT C [(3, [0, 3, 4])] 83) (bodyOf Tryz.prog 83) [1, 1, 0, 1, 0] (endK Tryz.prog 83 K)) [(0, (.slice rows0a rows0l rows0c)), (3, (.int .i64 n3)), (4, (.int .i64 i4))] m := by
  refine loop_rule (σ := γ × Int × Int) (fun s => F83_1 rows0a rows0l rows0c s.2.1 s.2.2) (fun s m => J s.1 s.2.1 s.2.2 m) (fun s => μ s.1 s.2.1 s.2.2) (g, n3, i4) rfl hJ ?_
  intro s m hJ
  have h := hs s.1 s.2.1 s.2.2 m hJ
  refine e83_1 ?_
  refine Eq.mp (congrArg (fun B => s83_1 C rows0a rows0l rows0c s.2.1 s.2.2 (andThenE B (kAt (cfgOf Tryz.prog pureF pureT C [(3, [0, 3, 4])] 83) (bodyOf Tryz.prog 83) [1, 1, 0, 1, 0] (endK Tryz.prog 83 K))) m) ?_) h
  funext fr m'
  apply propext
  constructor
  · rintro ⟨g', n3', i4', h1, h2, h3⟩
    exact ⟨(g', n3', i4'), h1, h2, h3⟩
  · rintro ⟨⟨g', n3', i4'⟩, h1, h2, h3⟩
    exact ⟨g', n3', i4', h1, h2, h3⟩

def s84 (C : CallT) (problem0a : Option Addr) (problem0l problem0c : Nat) (proof1a : Option Addr) (proof1l proof1c : Nat) (live2a : Option Addr) (live2l live2c : Nat) (K : Value → Mem → Prop) (m : Mem) : Prop :=
  rdRow m problem0a (problem0l * 1) fun r_3 =>
  appendC m 1 24 [(.slice none 0 0)] none 0 0 problem0l r_3 fun a_1 c_1 m_2 =>
  loopE [1, 2, 6, 7, 8] (evCode (cfgOf Tryz.prog pureF pureT C [(4, [1, 2, 6, 7, 8]), (17, [2, 6, 7, 13])] 84) (codeAt (bodyOf Tryz.prog 84) [1, 1, 1, 0, 1, 0, 0])) (kAt (cfgOf Tryz.prog pureF pureT C [(4, [1, 2, 6, 7, 8]), (17, [2, 6, 7, 13])] 84) (bodyOf Tryz.prog 84) [1, 1, 1, 0, 1, 0] (endK Tryz.prog 84 K)) [(1, (.slice proof1a proof1l proof1c)), (2, (.slice live2a live2l live2c)), (6, (.bool false)), (7, (.slice a_1 (0 + problem0l) c_1)), (8, (.int .i64 0))] m_2
theorem e84 (C : CallT) (problem0a : Option Addr) (problem0l problem0c : Nat) (proof1a : Option Addr) (proof1l proof1c : Nat) (live2a : Option Addr) (live2l live2c : Nat) (K : Value → Mem → Prop) (m : Mem) : evFn Tryz.prog pureF pureT C [(4, [1, 2, 6, 7, 8]), (17, [2, 6, 7, 13])] 84 [(.slice problem0a problem0l problem0c), (.slice proof1a proof1l proof1c), (.slice live2a live2l live2c)] K m = s84 C problem0a problem0l problem0c proof1a proof1l proof1c live2a live2l live2c K m := by kernel_rfl
theorem call84 {W0 : World} {problem0a : Option Addr} {problem0l problem0c : Nat} {proof1a : Option Addr} {proof1l proof1c : Nat} {live2a : Option Addr} {live2l live2c : Nat} {K : Value → Mem → Prop} {m : Mem} (h : s84 (callOK Tryz.prog W0) problem0a problem0l problem0c proof1a proof1l proof1c live2a live2l live2c K m) : callOK Tryz.prog W0 84 [(.slice problem0a problem0l problem0c), (.slice proof1a proof1l proof1c), (.slice live2a live2l live2c)] K m :=
  evFn_sound pureOk mixedP (fun w => Tryz.call84 _ w) ((e84 (callOK Tryz.prog W0) problem0a problem0l problem0c proof1a proof1l proof1c live2a live2l live2c K m).symm ▸ h)
def s84_1 (C : CallT) (proof1a : Option Addr) (proof1l proof1c : Nat) (live2a : Option Addr) (live2l live2c : Nat) (t6 : Bool) (bag7a : Option Addr) (bag7l bag7c : Nat) (i8 : Int) (Kt : Exit → Fr → Mem → Prop) (m : Mem) : Prop :=
  ifB (decide (i8 < ((proof1l : Nat) : Int)))
  (ckP proof1a fun b_4 o_4 =>
  ckI i8 proof1l fun j_5 =>
  ldBool m b_4 (o_4 + (j_5 * 2)) fun y_6 =>
  ifB y_6
  (ckP proof1a fun b_7 o_7 =>
  ckI i8 proof1l fun j_8 =>
  ldSl m b_7 ((o_7 + (j_8 * 2)) + 1) fun l_9a l_9l l_9c =>
  C 132 [(.slice bag7a bag7l bag7c), (.slice l_9a l_9l l_9c)] (fun rm_12 m_12 =>
  ∃ x_10a x_10l x_10c x_11, rm_12 = (.tuple #[(.slice x_10a x_10l x_10c), (.bool x_11)]) ∧
  ifB (!x_11)
  (Kt .ret [(1, (.slice proof1a proof1l proof1c)), (2, (.slice live2a live2l live2c)), (6, (.bool false)), (7, (.slice bag7a bag7l bag7c)), (8, (.int .i64 i8))] m_12)
  (Kt .normal [(1, (.slice proof1a proof1l proof1c)), (2, (.slice live2a live2l live2c)), (6, (.bool t6)), (7, (.slice x_10a x_10l x_10c)), (8, (.int .i64 (IntKind.wrap .i64 (i8 + 1))))] m_12)) m)
  (ckP proof1a fun b_13 o_13 =>
  ckI i8 proof1l fun j_14 =>
  ldSl m b_13 ((o_13 + (j_14 * 2)) + 1) fun l_15a l_15l l_15c =>
  allocB m (Blk.ofList [(.slice l_15a l_15l l_15c)]) fun b_16 m_17 =>
  rdRow m_17 (some ⟨b_16, 0, none⟩) (1 * 1) fun r_20 =>
  appendC m_17 1 24 [(.slice none 0 0)] bag7a bag7l bag7c 1 r_20 fun a_18 c_18 m_19 =>
  Kt .normal [(1, (.slice proof1a proof1l proof1c)), (2, (.slice live2a live2l live2c)), (6, (.bool t6)), (7, (.slice a_18 (bag7l + 1) c_18)), (8, (.int .i64 (IntKind.wrap .i64 (i8 + 1))))] m_19))
  (Kt (.exit 0) [(1, (.slice proof1a proof1l proof1c)), (2, (.slice live2a live2l live2c)), (6, (.bool t6)), (7, (.slice bag7a bag7l bag7c)), (8, (.int .i64 i8))] m)
theorem e84_1 {C : CallT} {proof1a : Option Addr} {proof1l proof1c : Nat} {live2a : Option Addr} {live2l live2c : Nat} {t6 : Bool} {bag7a : Option Addr} {bag7l bag7c : Nat} {i8 : Int} {Kt : Exit → Fr → Mem → Prop} {m : Mem} (h : s84_1 C proof1a proof1l proof1c live2a live2l live2c t6 bag7a bag7l bag7c i8 Kt m) : evCode (cfgOf Tryz.prog pureF pureT C [(4, [1, 2, 6, 7, 8]), (17, [2, 6, 7, 13])] 84) (codeAt (bodyOf Tryz.prog 84) [1, 1, 1, 0, 1, 0, 0]) (trimK [1, 2, 6, 7, 8] Kt) [(1, (.slice proof1a proof1l proof1c)), (2, (.slice live2a live2l live2c)), (6, (.bool t6)), (7, (.slice bag7a bag7l bag7c)), (8, (.int .i64 i8))] m :=
  (show _ = _ by kernel_rfl : evCode (cfgOf Tryz.prog pureF pureT C [(4, [1, 2, 6, 7, 8]), (17, [2, 6, 7, 13])] 84) (codeAt (bodyOf Tryz.prog 84) [1, 1, 1, 0, 1, 0, 0]) (trimK [1, 2, 6, 7, 8] Kt) [(1, (.slice proof1a proof1l proof1c)), (2, (.slice live2a live2l live2c)), (6, (.bool t6)), (7, (.slice bag7a bag7l bag7c)), (8, (.int .i64 i8))] m = s84_1 C proof1a proof1l proof1c live2a live2l live2c t6 bag7a bag7l bag7c i8 Kt m).symm ▸ h
def s84_1r (C : CallT) (proof1a : Option Addr) (proof1l proof1c : Nat) (live2a : Option Addr) (live2l live2c : Nat) (t6 : Bool) (bag7a : Option Addr) (bag7l bag7c : Nat) (i8 : Int) (K : Value → Mem → Prop) (m : Mem) : Prop :=
  K (.bool t6) m
theorem e84_1r {C : CallT} {kn : Fr → Mem → Prop} {proof1a : Option Addr} {proof1l proof1c : Nat} {live2a : Option Addr} {live2l live2c : Nat} {t6 : Bool} {bag7a : Option Addr} {bag7l bag7c : Nat} {i8 : Int} {K : Value → Mem → Prop} {m : Mem} : (andThenE kn (kAt (cfgOf Tryz.prog pureF pureT C [(4, [1, 2, 6, 7, 8]), (17, [2, 6, 7, 13])] 84) (bodyOf Tryz.prog 84) [1, 1, 1, 0, 1, 0] (endK Tryz.prog 84 K)) .ret [(1, (.slice proof1a proof1l proof1c)), (2, (.slice live2a live2l live2c)), (6, (.bool t6)), (7, (.slice bag7a bag7l bag7c)), (8, (.int .i64 i8))] m) = s84_1r C proof1a proof1l proof1c live2a live2l live2c t6 bag7a bag7l bag7c i8 K m := by kernel_rfl
def s84_1x0 (C : CallT) (proof1a : Option Addr) (proof1l proof1c : Nat) (live2a : Option Addr) (live2l live2c : Nat) (t6 : Bool) (bag7a : Option Addr) (bag7l bag7c : Nat) (i8 : Int) (K : Value → Mem → Prop) (m : Mem) : Prop :=
  C 132 [(.slice bag7a bag7l bag7c), (.slice none 0 0)] (fun rm_23 m_23 =>
  ∃ x_21a x_21l x_21c x_22, rm_23 = (.tuple #[(.slice x_21a x_21l x_21c), (.bool x_22)]) ∧
  ifB (!x_22)
  (K (.bool false) m_23)
  (loopE [2, 6, 7, 13] (evCode (cfgOf Tryz.prog pureF pureT C [(4, [1, 2, 6, 7, 8]), (17, [2, 6, 7, 13])] 84) (codeAt (bodyOf Tryz.prog 84) [1, 1, 1, 1, 1, 1, 1, 0, 1, 0, 0])) (kAt (cfgOf Tryz.prog pureF pureT C [(4, [1, 2, 6, 7, 8]), (17, [2, 6, 7, 13])] 84) (bodyOf Tryz.prog 84) [1, 1, 1, 1, 1, 1, 1, 0, 1, 0] (endK Tryz.prog 84 K)) [(2, (.slice live2a live2l live2c)), (6, (.bool t6)), (7, (.slice x_21a x_21l x_21c)), (13, (.int .i64 0))] m_23)) m
theorem e84_1x0 {C : CallT} {kn : Fr → Mem → Prop} {proof1a : Option Addr} {proof1l proof1c : Nat} {live2a : Option Addr} {live2l live2c : Nat} {t6 : Bool} {bag7a : Option Addr} {bag7l bag7c : Nat} {i8 : Int} {K : Value → Mem → Prop} {m : Mem} : (andThenE kn (kAt (cfgOf Tryz.prog pureF pureT C [(4, [1, 2, 6, 7, 8]), (17, [2, 6, 7, 13])] 84) (bodyOf Tryz.prog 84) [1, 1, 1, 0, 1, 0] (endK Tryz.prog 84 K)) (.exit 0) [(1, (.slice proof1a proof1l proof1c)), (2, (.slice live2a live2l live2c)), (6, (.bool t6)), (7, (.slice bag7a bag7l bag7c)), (8, (.int .i64 i8))] m) = s84_1x0 C proof1a proof1l proof1c live2a live2l live2c t6 bag7a bag7l bag7c i8 K m := by kernel_rfl
def s84_2 (C : CallT) (live2a : Option Addr) (live2l live2c : Nat) (t6 : Bool) (bag7a : Option Addr) (bag7l bag7c : Nat) (i13 : Int) (Kt : Exit → Fr → Mem → Prop) (m : Mem) : Prop :=
  ifB (decide (i13 < ((live2l : Nat) : Int)))
  (ckP live2a fun b_24 o_24 =>
  ckI i13 live2l fun j_25 =>
  ldSl m b_24 (o_24 + j_25) fun l_26a l_26l l_26c =>
  C 132 [(.slice bag7a bag7l bag7c), (.slice l_26a l_26l l_26c)] (fun rm_29 m_29 =>
  ∃ x_27a x_27l x_27c x_28, rm_29 = (.tuple #[(.slice x_27a x_27l x_27c), (.bool x_28)]) ∧
  ifB (!x_28)
  (Kt .ret [(2, (.slice live2a live2l live2c)), (6, (.bool false)), (7, (.slice bag7a bag7l bag7c)), (13, (.int .i64 i13))] m_29)
  (Kt .normal [(2, (.slice live2a live2l live2c)), (6, (.bool t6)), (7, (.slice x_27a x_27l x_27c)), (13, (.int .i64 (IntKind.wrap .i64 (i13 + 1))))] m_29)) m)
  (Kt (.exit 2) [(2, (.slice live2a live2l live2c)), (6, (.bool t6)), (7, (.slice bag7a bag7l bag7c)), (13, (.int .i64 i13))] m)
theorem e84_2 {C : CallT} {live2a : Option Addr} {live2l live2c : Nat} {t6 : Bool} {bag7a : Option Addr} {bag7l bag7c : Nat} {i13 : Int} {Kt : Exit → Fr → Mem → Prop} {m : Mem} (h : s84_2 C live2a live2l live2c t6 bag7a bag7l bag7c i13 Kt m) : evCode (cfgOf Tryz.prog pureF pureT C [(4, [1, 2, 6, 7, 8]), (17, [2, 6, 7, 13])] 84) (codeAt (bodyOf Tryz.prog 84) [1, 1, 1, 1, 1, 1, 1, 0, 1, 0, 0]) (trimK [2, 6, 7, 13] Kt) [(2, (.slice live2a live2l live2c)), (6, (.bool t6)), (7, (.slice bag7a bag7l bag7c)), (13, (.int .i64 i13))] m :=
  (show _ = _ by kernel_rfl : evCode (cfgOf Tryz.prog pureF pureT C [(4, [1, 2, 6, 7, 8]), (17, [2, 6, 7, 13])] 84) (codeAt (bodyOf Tryz.prog 84) [1, 1, 1, 1, 1, 1, 1, 0, 1, 0, 0]) (trimK [2, 6, 7, 13] Kt) [(2, (.slice live2a live2l live2c)), (6, (.bool t6)), (7, (.slice bag7a bag7l bag7c)), (13, (.int .i64 i13))] m = s84_2 C live2a live2l live2c t6 bag7a bag7l bag7c i13 Kt m).symm ▸ h
def s84_2r (C : CallT) (live2a : Option Addr) (live2l live2c : Nat) (t6 : Bool) (bag7a : Option Addr) (bag7l bag7c : Nat) (i13 : Int) (K : Value → Mem → Prop) (m : Mem) : Prop :=
  K (.bool t6) m
theorem e84_2r {C : CallT} {kn : Fr → Mem → Prop} {live2a : Option Addr} {live2l live2c : Nat} {t6 : Bool} {bag7a : Option Addr} {bag7l bag7c : Nat} {i13 : Int} {K : Value → Mem → Prop} {m : Mem} : (andThenE kn (kAt (cfgOf Tryz.prog pureF pureT C [(4, [1, 2, 6, 7, 8]), (17, [2, 6, 7, 13])] 84) (bodyOf Tryz.prog 84) [1, 1, 1, 1, 1, 1, 1, 0, 1, 0] (endK Tryz.prog 84 K)) .ret [(2, (.slice live2a live2l live2c)), (6, (.bool t6)), (7, (.slice bag7a bag7l bag7c)), (13, (.int .i64 i13))] m) = s84_2r C live2a live2l live2c t6 bag7a bag7l bag7c i13 K m := by kernel_rfl
def s84_2x2 (C : CallT) (live2a : Option Addr) (live2l live2c : Nat) (t6 : Bool) (bag7a : Option Addr) (bag7l bag7c : Nat) (i13 : Int) (K : Value → Mem → Prop) (m : Mem) : Prop :=
  K (.bool (((bag7l : Nat) : Int) == 0)) m
theorem e84_2x2 {C : CallT} {kn : Fr → Mem → Prop} {live2a : Option Addr} {live2l live2c : Nat} {t6 : Bool} {bag7a : Option Addr} {bag7l bag7c : Nat} {i13 : Int} {K : Value → Mem → Prop} {m : Mem} : (andThenE kn (kAt (cfgOf Tryz.prog pureF pureT C [(4, [1, 2, 6, 7, 8]), (17, [2, 6, 7, 13])] 84) (bodyOf Tryz.prog 84) [1, 1, 1, 1, 1, 1, 1, 0, 1, 0] (endK Tryz.prog 84 K)) (.exit 2) [(2, (.slice live2a live2l live2c)), (6, (.bool t6)), (7, (.slice bag7a bag7l bag7c)), (13, (.int .i64 i13))] m) = s84_2x2 C live2a live2l live2c t6 bag7a bag7l bag7c i13 K m := by kernel_rfl
def F84_1 (proof1a : Option Addr) (proof1l proof1c : Nat) (live2a : Option Addr) (live2l live2c : Nat) (t6 : Bool) (bag7a : Option Addr) (bag7l bag7c : Nat) (i8 : Int) : Fr := [(1, (.slice proof1a proof1l proof1c)), (2, (.slice live2a live2l live2c)), (6, (.bool t6)), (7, (.slice bag7a bag7l bag7c)), (8, (.int .i64 i8))]
theorem loop84_1 {C : CallT} {γ : Type} {proof1a : Option Addr} {proof1l proof1c : Nat} {live2a : Option Addr} {live2l live2c : Nat} {K : Value → Mem → Prop} {m : Mem} (J : γ → Bool → Option Addr → Nat → Nat → Int → Mem → Prop) (μ : γ → Bool → Option Addr → Nat → Nat → Int → Nat) (g : γ) {t6 : Bool} {bag7a : Option Addr} {bag7l bag7c : Nat} {i8 : Int} (hJ : J g t6 bag7a bag7l bag7c i8 m)
    (hs : ∀ g t6 bag7a bag7l bag7c i8 m, J g t6 bag7a bag7l bag7c i8 m → s84_1 C proof1a proof1l proof1c live2a live2l live2c t6 bag7a bag7l bag7c i8 (andThenE (fun fr m' => ∃ g' t6' bag7a' bag7l' bag7c' i8', fr = F84_1 proof1a proof1l proof1c live2a live2l live2c t6' bag7a' bag7l' bag7c' i8' ∧ J g' t6' bag7a' bag7l' bag7c' i8' m' ∧ μ g' t6' bag7a' bag7l' bag7c' i8' < μ g t6 bag7a bag7l bag7c i8) (kAt (cfgOf Tryz.prog pureF pureT C [(4, [1, 2, 6, 7, 8]), (17, [2, 6, 7, 13])] 84) (bodyOf Tryz.prog 84) [1, 1, 1, 0, 1, 0] (endK Tryz.prog 84 K))) m) :
    loopE [1, 2, 6, 7, 8] (evCode (cfgOf Tryz.prog pureF pureT C [(4, [1, 2, 6, 7, 8]), (17, [2, 6, 7, 13])] 84) (codeAt (bodyOf Tryz.prog 84) [1, 1, 1, 0, 1, 0, 0])) (kAt (cfgOf Tryz.prog pureF pureT C [(4, [1, 2, 6, 7, 8]), (17, [2, 6, 7, 13])] 84) (bodyOf Tryz.prog 84) [1, 1, 1, 0, 1, 0] (endK Tryz.prog 84 K)) [(1, (.slice proof1a proof1l proof1c)), (2, (.slice live2a live2l live2c)), (6, (.bool t6)), (7, (.slice bag7a bag7l bag7c)), (8, (.int .i64 i8))] m := by
  refine loop_rule (σ := γ × Bool × Option Addr × Nat × Nat × Int) (fun s => F84_1 proof1a proof1l proof1c live2a live2l live2c s.2.1 s.2.2.1 s.2.2.2.1 s.2.2.2.2.1 s.2.2.2.2.2) (fun s m => J s.1 s.2.1 s.2.2.1 s.2.2.2.1 s.2.2.2.2.1 s.2.2.2.2.2 m) (fun s => μ s.1 s.2.1 s.2.2.1 s.2.2.2.1 s.2.2.2.2.1 s.2.2.2.2.2) (g, t6, bag7a, bag7l, bag7c, i8) rfl hJ ?_
  intro s m hJ
  have h := hs s.1 s.2.1 s.2.2.1 s.2.2.2.1 s.2.2.2.2.1 s.2.2.2.2.2 m hJ
  refine e84_1 ?_
  refine Eq.mp (congrArg (fun B => s84_1 C proof1a proof1l proof1c live2a live2l live2c s.2.1 s.2.2.1 s.2.2.2.1 s.2.2.2.2.1 s.2.2.2.2.2 (andThenE B (kAt (cfgOf Tryz.prog pureF pureT C [(4, [1, 2, 6, 7, 8]), (17, [2, 6, 7, 13])] 84) (bodyOf Tryz.prog 84) [1, 1, 1, 0, 1, 0] (endK Tryz.prog 84 K))) m) ?_) h
  funext fr m'
  apply propext
  constructor
  · rintro ⟨g', t6', bag7a', bag7l', bag7c', i8', h1, h2, h3⟩
    exact ⟨(g', t6', bag7a', bag7l', bag7c', i8'), h1, h2, h3⟩
  · rintro ⟨⟨g', t6', bag7a', bag7l', bag7c', i8'⟩, h1, h2, h3⟩
    exact ⟨g', t6', bag7a', bag7l', bag7c', i8', h1, h2, h3⟩
def F84_2 (live2a : Option Addr) (live2l live2c : Nat) (t6 : Bool) (bag7a : Option Addr) (bag7l bag7c : Nat) (i13 : Int) : Fr := [(2, (.slice live2a live2l live2c)), (6, (.bool t6)), (7, (.slice bag7a bag7l bag7c)), (13, (.int .i64 i13))]
theorem loop84_2 {C : CallT} {γ : Type} {live2a : Option Addr} {live2l live2c : Nat} {K : Value → Mem → Prop} {m : Mem} (J : γ → Bool → Option Addr → Nat → Nat → Int → Mem → Prop) (μ : γ → Bool → Option Addr → Nat → Nat → Int → Nat) (g : γ) {t6 : Bool} {bag7a : Option Addr} {bag7l bag7c : Nat} {i13 : Int} (hJ : J g t6 bag7a bag7l bag7c i13 m)
    (hs : ∀ g t6 bag7a bag7l bag7c i13 m, J g t6 bag7a bag7l bag7c i13 m → s84_2 C live2a live2l live2c t6 bag7a bag7l bag7c i13 (andThenE (fun fr m' => ∃ g' t6' bag7a' bag7l' bag7c' i13', fr = F84_2 live2a live2l live2c t6' bag7a' bag7l' bag7c' i13' ∧ J g' t6' bag7a' bag7l' bag7c' i13' m' ∧ μ g' t6' bag7a' bag7l' bag7c' i13' < μ g t6 bag7a bag7l bag7c i13) (kAt (cfgOf Tryz.prog pureF pureT C [(4, [1, 2, 6, 7, 8]), (17, [2, 6, 7, 13])] 84) (bodyOf Tryz.prog 84) [1, 1, 1, 1, 1, 1, 1, 0, 1, 0] (endK Tryz.prog 84 K))) m) :
    loopE [2, 6, 7, 13] (evCode (cfgOf Tryz.prog pureF pureT C [(4, [1, 2, 6, 7, 8]), (17, [2, 6, 7, 13])] 84) (codeAt (bodyOf Tryz.prog 84) [1, 1, 1, 1, 1, 1, 1, 0, 1, 0, 0])) (kAt (cfgOf Tryz.prog pureF pureT C [(4, [1, 2, 6, 7, 8]), (17, [2, 6, 7, 13])] 84) (bodyOf Tryz.prog 84) [1, 1, 1, 1, 1, 1, 1, 0, 1, 0] (endK Tryz.prog 84 K)) [(2, (.slice live2a live2l live2c)), (6, (.bool t6)), (7, (.slice bag7a bag7l bag7c)), (13, (.int .i64 i13))] m := by
  refine loop_rule (σ := γ × Bool × Option Addr × Nat × Nat × Int) (fun s => F84_2 live2a live2l live2c s.2.1 s.2.2.1 s.2.2.2.1 s.2.2.2.2.1 s.2.2.2.2.2) (fun s m => J s.1 s.2.1 s.2.2.1 s.2.2.2.1 s.2.2.2.2.1 s.2.2.2.2.2 m) (fun s => μ s.1 s.2.1 s.2.2.1 s.2.2.2.1 s.2.2.2.2.1 s.2.2.2.2.2) (g, t6, bag7a, bag7l, bag7c, i13) rfl hJ ?_
  intro s m hJ
  have h := hs s.1 s.2.1 s.2.2.1 s.2.2.2.1 s.2.2.2.2.1 s.2.2.2.2.2 m hJ
  refine e84_2 ?_
  refine Eq.mp (congrArg (fun B => s84_2 C live2a live2l live2c s.2.1 s.2.2.1 s.2.2.2.1 s.2.2.2.2.1 s.2.2.2.2.2 (andThenE B (kAt (cfgOf Tryz.prog pureF pureT C [(4, [1, 2, 6, 7, 8]), (17, [2, 6, 7, 13])] 84) (bodyOf Tryz.prog 84) [1, 1, 1, 1, 1, 1, 1, 0, 1, 0] (endK Tryz.prog 84 K))) m) ?_) h
  funext fr m'
  apply propext
  constructor
  · rintro ⟨g', t6', bag7a', bag7l', bag7c', i13', h1, h2, h3⟩
    exact ⟨(g', t6', bag7a', bag7l', bag7c', i13'), h1, h2, h3⟩
  · rintro ⟨⟨g', t6', bag7a', bag7l', bag7c', i13'⟩, h1, h2, h3⟩
    exact ⟨g', t6', bag7a', bag7l', bag7c', i13', h1, h2, h3⟩

def s85 (C : CallT)  (K : Value → Mem → Prop) (m : Mem) : Prop :=
  C 86 [] (fun rm_2 m_2 =>
  ∃ x_1, rm_2 = (.pointer x_1) ∧
  allocB m_2 (Blk.ofList [(.pointer x_1)]) fun b_3 m_4 =>
  K (ptr b_3 0) m_4) m
theorem e85 (C : CallT)  (K : Value → Mem → Prop) (m : Mem) : evFn Tryz.prog pureF pureT C [] 85 [] K m = s85 C  K m := by kernel_rfl
theorem call85 {W0 : World}  {K : Value → Mem → Prop} {m : Mem} (h : s85 (callOK Tryz.prog W0)  K m) : callOK Tryz.prog W0 85 [] K m :=
  evFn_sound pureOk mixedP (fun w => Tryz.call85 _ w) ((e85 (callOK Tryz.prog W0)  K m).symm ▸ h)

def s86 (C : CallT)  (K : Value → Mem → Prop) (m : Mem) : Prop :=
  allocB m (Blk.ofList [(.int .i64 0), (.int .i64 0)]) fun b_1 m_2 =>
  K (ptr b_1 0) m_2
theorem e86 (C : CallT)  (K : Value → Mem → Prop) (m : Mem) : evFn Tryz.prog pureF pureT C [] 86 [] K m = s86 C  K m := by kernel_rfl
theorem call86 {W0 : World}  {K : Value → Mem → Prop} {m : Mem} (h : s86 (callOK Tryz.prog W0)  K m) : callOK Tryz.prog W0 86 [] K m :=
  evFn_sound pureOk mixedP (fun w => Tryz.call86 _ w) ((e86 (callOK Tryz.prog W0)  K m).symm ▸ h)

def s87 (C : CallT) (p0 : Nat) (K : Value → Mem → Prop) (m : Mem) : Prop :=
  allocB m (Blk.ofList [(ptr p0 0)]) fun b_1 m_2 =>
  K (ptr b_1 0) m_2
theorem e87 (C : CallT) (p0 : Nat) (K : Value → Mem → Prop) (m : Mem) : evFn Tryz.prog pureF pureT C [] 87 [(ptr p0 0)] K m = s87 C p0 K m := by kernel_rfl
theorem call87 {W0 : World} {p0 : Nat} {K : Value → Mem → Prop} {m : Mem} (h : s87 (callOK Tryz.prog W0) p0 K m) : callOK Tryz.prog W0 87 [(ptr p0 0)] K m :=
  evFn_sound pureOk mixedP (fun w => Tryz.call87 _ w) ((e87 (callOK Tryz.prog W0) p0 K m).symm ▸ h)

def s88 (C : CallT) (k0 : Nat) (problem1 : ByteArray) (proof2 : ByteArray) (K : Value → Mem → Prop) (m : Mem) : Prop :=
  allocB m (zeroBlk Tryz.prog 41) fun b_1 m_2 =>
  ldPtr m_2 k0 0 fun p_3 =>
  C 73 [(.pointer p_3), (.string problem1)] (fun rm_7 m_7 =>
  ∃ x_4a x_4l x_4c x_5 x_6, rm_7 = (.tuple #[(.slice x_4a x_4l x_4c), (.int .i64 x_5), (.int .i64 x_6)]) ∧
  ifB (x_5 != 0)
  (stL m_7 b_1 0 [(.int .i64 x_5), (.int .i64 0), (.int .i64 x_6)] fun m_8 =>
  ldInt .i64 m_8 b_1 0 fun x_9 =>
  ldInt .i64 m_8 b_1 1 fun x_10 =>
  ldInt .i64 m_8 b_1 2 fun x_11 =>
  K (.agg #[(.int .i64 x_9), (.int .i64 x_10), (.int .i64 x_11)]) m_8)
  (ldPtr m_7 k0 0 fun p_12 =>
  C 80 [(.pointer p_12), (.string proof2)] (fun rm_16 m_16 =>
  ∃ x_13 x_14 x_15a x_15l x_15c, rm_16 = (.agg #[(.int .i64 x_13), (.int .i64 x_14), (.slice x_15a x_15l x_15c)]) ∧
  allocB m_16 (zeroBlk Tryz.prog 73) fun b_17 m_18 =>
  stL m_18 b_17 0 [(.int .i64 x_13), (.int .i64 x_14), (.slice x_15a x_15l x_15c)] fun m_19 =>
  ldInt .i64 m_19 b_17 0 fun x_20 =>
  ifB (x_20 != 0)
  (ldInt .i64 m_19 b_17 0 fun x_21 =>
  ldInt .i64 m_19 b_17 1 fun x_22 =>
  stL m_19 b_1 0 [(.int .i64 x_21), (.int .i64 1), (.int .i64 x_22)] fun m_23 =>
  ldInt .i64 m_23 b_1 0 fun x_24 =>
  ldInt .i64 m_23 b_1 1 fun x_25 =>
  ldInt .i64 m_23 b_1 2 fun x_26 =>
  K (.agg #[(.int .i64 x_24), (.int .i64 x_25), (.int .i64 x_26)]) m_23)
  (ldSl m_19 b_17 2 fun l_27a l_27l l_27c =>
  C 82 [(.slice l_27a l_27l l_27c)] (fun rm_29 m_29 =>
  ∃ x_28a x_28l x_28c, rm_29 = (.slice x_28a x_28l x_28c) ∧
  loopE [6, 7, 11, 12] (evCode (cfgOf Tryz.prog pureF pureT C [(9, [6, 7, 11, 12]), (15, [6, 7, 11, 12, 13, 14, 15]), (23, [6, 7, 11, 12, 14, 16, 17]), (34, [6, 7, 11, 18])] 88) (codeAt (bodyOf Tryz.prog 88) [1, 1, 1, 1, 1, 1, 0, 1, 0, 0])) (kAt (cfgOf Tryz.prog pureF pureT C [(9, [6, 7, 11, 12]), (15, [6, 7, 11, 12, 13, 14, 15]), (23, [6, 7, 11, 12, 14, 16, 17]), (34, [6, 7, 11, 18])] 88) (bodyOf Tryz.prog 88) [1, 1, 1, 1, 1, 1, 0, 1, 0] (endK Tryz.prog 88 K)) [(6, (ptr b_1 0)), (7, (.slice x_4a x_4l x_4c)), (11, (.slice x_28a x_28l x_28c)), (12, (.int .i64 0))] m_29) m_19)) m_7)) m_2
theorem e88 (C : CallT) (k0 : Nat) (problem1 : ByteArray) (proof2 : ByteArray) (K : Value → Mem → Prop) (m : Mem) : evFn Tryz.prog pureF pureT C [(9, [6, 7, 11, 12]), (15, [6, 7, 11, 12, 13, 14, 15]), (23, [6, 7, 11, 12, 14, 16, 17]), (34, [6, 7, 11, 18])] 88 [(ptr k0 0), (.string problem1), (.string proof2)] K m = s88 C k0 problem1 proof2 K m := by kernel_rfl
theorem call88 {W0 : World} {k0 : Nat} {problem1 : ByteArray} {proof2 : ByteArray} {K : Value → Mem → Prop} {m : Mem} (h : s88 (callOK Tryz.prog W0) k0 problem1 proof2 K m) : callOK Tryz.prog W0 88 [(ptr k0 0), (.string problem1), (.string proof2)] K m :=
  evFn_sound pureOk mixedP (fun w => Tryz.call88 _ w) ((e88 (callOK Tryz.prog W0) k0 problem1 proof2 K m).symm ▸ h)
def s88_1 (C : CallT) (t6 : Nat) (store7a : Option Addr) (store7l store7c : Nat) (rows11a : Option Addr) (rows11l rows11c : Nat) (i12 : Int) (Kt : Exit → Fr → Mem → Prop) (m : Mem) : Prop :=
  ifB (decide (i12 < ((rows11l : Nat) : Int)))
  (ckP rows11a fun b_30 o_30 =>
  ckI i12 rows11l fun j_31 =>
  ldSl m b_30 ((o_30 + (j_31 * 2)) + 1) fun l_32a l_32l l_32c =>
  ckP rows11a fun b_33 o_33 =>
  ckI i12 rows11l fun j_34 =>
  ldBool m b_33 (o_33 + (j_34 * 2)) fun y_35 =>
  ifB y_35
  (loopE [6, 7, 11, 12, 13, 14, 15] (evCode (cfgOf Tryz.prog pureF pureT C [(9, [6, 7, 11, 12]), (15, [6, 7, 11, 12, 13, 14, 15]), (23, [6, 7, 11, 12, 14, 16, 17]), (34, [6, 7, 11, 18])] 88) (codeAt (codeAt (bodyOf Tryz.prog 88) [1, 1, 1, 1, 1, 1, 0, 1, 0, 0]) [1, 0, 0, 1, 1, 0, 1, 0, 1, 0, 0])) (kAt (cfgOf Tryz.prog pureF pureT C [(9, [6, 7, 11, 12]), (15, [6, 7, 11, 12, 13, 14, 15]), (23, [6, 7, 11, 12, 14, 16, 17]), (34, [6, 7, 11, 18])] 88) (codeAt (bodyOf Tryz.prog 88) [1, 1, 1, 1, 1, 1, 0, 1, 0, 0]) [1, 0, 0, 1, 1, 0, 1, 0, 1, 0] (trimK [6, 7, 11, 12] Kt)) [(6, (ptr t6 0)), (7, (.slice store7a store7l store7c)), (11, (.slice rows11a rows11l rows11c)), (12, (.int .i64 i12)), (13, (.slice l_32a l_32l l_32c)), (14, (.int .i64 (-1))), (15, (.int .i64 0))] m)
  (C 133 [(.slice store7a store7l store7c), (.slice l_32a l_32l l_32c)] (fun rm_37 m_37 =>
  ∃ x_36, rm_37 = (.bool x_36) ∧
  ifB (!x_36)
  (stL m_37 t6 0 [(.int .i64 18), (.int .i64 2), (.int .i64 i12)] fun m_38 =>
  Kt .ret [(6, (ptr t6 0)), (7, (.slice store7a store7l store7c)), (11, (.slice rows11a rows11l rows11c)), (12, (.int .i64 i12))] m_38)
  (ifB (decide (((store7l : Nat) : Int) ≥ 64))
  (stL m_37 t6 0 [(.int .i64 12), (.int .i64 2), (.int .i64 i12)] fun m_39 =>
  Kt .ret [(6, (ptr t6 0)), (7, (.slice store7a store7l store7c)), (11, (.slice rows11a rows11l rows11c)), (12, (.int .i64 i12))] m_39)
  (allocB m_37 (Blk.ofList [(.slice l_32a l_32l l_32c)]) fun b_40 m_41 =>
  rdRow m_41 (some ⟨b_40, 0, none⟩) (1 * 1) fun r_44 =>
  appendC m_41 1 24 [(.slice none 0 0)] store7a store7l store7c 1 r_44 fun a_42 c_42 m_43 =>
  Kt .normal [(6, (ptr t6 0)), (7, (.slice a_42 (store7l + 1) c_42)), (11, (.slice rows11a rows11l rows11c)), (12, (.int .i64 (IntKind.wrap .i64 (i12 + 1))))] m_43))) m))
  (Kt (.exit 0) [(6, (ptr t6 0)), (7, (.slice store7a store7l store7c)), (11, (.slice rows11a rows11l rows11c)), (12, (.int .i64 i12))] m)
theorem e88_1 {C : CallT} {t6 : Nat} {store7a : Option Addr} {store7l store7c : Nat} {rows11a : Option Addr} {rows11l rows11c : Nat} {i12 : Int} {Kt : Exit → Fr → Mem → Prop} {m : Mem} (h : s88_1 C t6 store7a store7l store7c rows11a rows11l rows11c i12 Kt m) : evCode (cfgOf Tryz.prog pureF pureT C [(9, [6, 7, 11, 12]), (15, [6, 7, 11, 12, 13, 14, 15]), (23, [6, 7, 11, 12, 14, 16, 17]), (34, [6, 7, 11, 18])] 88) (codeAt (bodyOf Tryz.prog 88) [1, 1, 1, 1, 1, 1, 0, 1, 0, 0]) (trimK [6, 7, 11, 12] Kt) [(6, (ptr t6 0)), (7, (.slice store7a store7l store7c)), (11, (.slice rows11a rows11l rows11c)), (12, (.int .i64 i12))] m :=
  (show _ = _ by kernel_rfl : evCode (cfgOf Tryz.prog pureF pureT C [(9, [6, 7, 11, 12]), (15, [6, 7, 11, 12, 13, 14, 15]), (23, [6, 7, 11, 12, 14, 16, 17]), (34, [6, 7, 11, 18])] 88) (codeAt (bodyOf Tryz.prog 88) [1, 1, 1, 1, 1, 1, 0, 1, 0, 0]) (trimK [6, 7, 11, 12] Kt) [(6, (ptr t6 0)), (7, (.slice store7a store7l store7c)), (11, (.slice rows11a rows11l rows11c)), (12, (.int .i64 i12))] m = s88_1 C t6 store7a store7l store7c rows11a rows11l rows11c i12 Kt m).symm ▸ h
def s88_1r (C : CallT) (t6 : Nat) (store7a : Option Addr) (store7l store7c : Nat) (rows11a : Option Addr) (rows11l rows11c : Nat) (i12 : Int) (K : Value → Mem → Prop) (m : Mem) : Prop :=
  ldInt .i64 m t6 0 fun x_45 =>
  ldInt .i64 m t6 1 fun x_46 =>
  ldInt .i64 m t6 2 fun x_47 =>
  K (.agg #[(.int .i64 x_45), (.int .i64 x_46), (.int .i64 x_47)]) m
theorem e88_1r {C : CallT} {kn : Fr → Mem → Prop} {t6 : Nat} {store7a : Option Addr} {store7l store7c : Nat} {rows11a : Option Addr} {rows11l rows11c : Nat} {i12 : Int} {K : Value → Mem → Prop} {m : Mem} : (andThenE kn (kAt (cfgOf Tryz.prog pureF pureT C [(9, [6, 7, 11, 12]), (15, [6, 7, 11, 12, 13, 14, 15]), (23, [6, 7, 11, 12, 14, 16, 17]), (34, [6, 7, 11, 18])] 88) (bodyOf Tryz.prog 88) [1, 1, 1, 1, 1, 1, 0, 1, 0] (endK Tryz.prog 88 K)) .ret [(6, (ptr t6 0)), (7, (.slice store7a store7l store7c)), (11, (.slice rows11a rows11l rows11c)), (12, (.int .i64 i12))] m) = s88_1r C t6 store7a store7l store7c rows11a rows11l rows11c i12 K m := by kernel_rfl
def s88_1x0 (C : CallT) (t6 : Nat) (store7a : Option Addr) (store7l store7c : Nat) (rows11a : Option Addr) (rows11l rows11c : Nat) (i12 : Int) (K : Value → Mem → Prop) (m : Mem) : Prop :=
  loopE [6, 7, 11, 18] (evCode (cfgOf Tryz.prog pureF pureT C [(9, [6, 7, 11, 12]), (15, [6, 7, 11, 12, 13, 14, 15]), (23, [6, 7, 11, 12, 14, 16, 17]), (34, [6, 7, 11, 18])] 88) (codeAt (bodyOf Tryz.prog 88) [1, 1, 1, 1, 1, 1, 1, 0, 1, 0, 0])) (kAt (cfgOf Tryz.prog pureF pureT C [(9, [6, 7, 11, 12]), (15, [6, 7, 11, 12, 13, 14, 15]), (23, [6, 7, 11, 12, 14, 16, 17]), (34, [6, 7, 11, 18])] 88) (bodyOf Tryz.prog 88) [1, 1, 1, 1, 1, 1, 1, 0, 1, 0] (endK Tryz.prog 88 K)) [(6, (ptr t6 0)), (7, (.slice store7a store7l store7c)), (11, (.slice rows11a rows11l rows11c)), (18, (.int .i64 0))] m
theorem e88_1x0 {C : CallT} {kn : Fr → Mem → Prop} {t6 : Nat} {store7a : Option Addr} {store7l store7c : Nat} {rows11a : Option Addr} {rows11l rows11c : Nat} {i12 : Int} {K : Value → Mem → Prop} {m : Mem} : (andThenE kn (kAt (cfgOf Tryz.prog pureF pureT C [(9, [6, 7, 11, 12]), (15, [6, 7, 11, 12, 13, 14, 15]), (23, [6, 7, 11, 12, 14, 16, 17]), (34, [6, 7, 11, 18])] 88) (bodyOf Tryz.prog 88) [1, 1, 1, 1, 1, 1, 0, 1, 0] (endK Tryz.prog 88 K)) (.exit 0) [(6, (ptr t6 0)), (7, (.slice store7a store7l store7c)), (11, (.slice rows11a rows11l rows11c)), (12, (.int .i64 i12))] m) = s88_1x0 C t6 store7a store7l store7c rows11a rows11l rows11c i12 K m := by kernel_rfl
def s88_2 (C : CallT) (t6 : Nat) (store7a : Option Addr) (store7l store7c : Nat) (rows11a : Option Addr) (rows11l rows11c : Nat) (i12 : Int) (c13a : Option Addr) (c13l c13c : Nat) (at14 : Int) (j15 : Int) (Kt : Exit → Fr → Mem → Prop) (m : Mem) : Prop :=
  ifB (decide (j15 < ((store7l : Nat) : Int)))
  (ifB (decide (at14 < 0))
  (ckP store7a fun b_48 o_48 =>
  ckI j15 store7l fun j_49 =>
  ldSl m b_48 (o_48 + j_49) fun l_50a l_50l l_50c =>
  C 18 [(.slice l_50a l_50l l_50c), (.slice c13a c13l c13c)] (fun rm_52 m_52 =>
  ∃ x_51, rm_52 = (.bool x_51) ∧
  ifB x_51
  (Kt .normal [(6, (ptr t6 0)), (7, (.slice store7a store7l store7c)), (11, (.slice rows11a rows11l rows11c)), (12, (.int .i64 i12)), (13, (.slice c13a c13l c13c)), (14, (.int .i64 j15)), (15, (.int .i64 (IntKind.wrap .i64 (j15 + 1))))] m_52)
  (Kt .normal [(6, (ptr t6 0)), (7, (.slice store7a store7l store7c)), (11, (.slice rows11a rows11l rows11c)), (12, (.int .i64 i12)), (13, (.slice c13a c13l c13c)), (14, (.int .i64 at14)), (15, (.int .i64 (IntKind.wrap .i64 (j15 + 1))))] m_52)) m)
  (Kt (.exit 2) [(6, (ptr t6 0)), (7, (.slice store7a store7l store7c)), (11, (.slice rows11a rows11l rows11c)), (12, (.int .i64 i12)), (13, (.slice c13a c13l c13c)), (14, (.int .i64 at14)), (15, (.int .i64 j15))] m))
  (Kt (.exit 2) [(6, (ptr t6 0)), (7, (.slice store7a store7l store7c)), (11, (.slice rows11a rows11l rows11c)), (12, (.int .i64 i12)), (13, (.slice c13a c13l c13c)), (14, (.int .i64 at14)), (15, (.int .i64 j15))] m)
theorem e88_2 {C : CallT} {t6 : Nat} {store7a : Option Addr} {store7l store7c : Nat} {rows11a : Option Addr} {rows11l rows11c : Nat} {i12 : Int} {c13a : Option Addr} {c13l c13c : Nat} {at14 : Int} {j15 : Int} {Kt : Exit → Fr → Mem → Prop} {m : Mem} (h : s88_2 C t6 store7a store7l store7c rows11a rows11l rows11c i12 c13a c13l c13c at14 j15 Kt m) : evCode (cfgOf Tryz.prog pureF pureT C [(9, [6, 7, 11, 12]), (15, [6, 7, 11, 12, 13, 14, 15]), (23, [6, 7, 11, 12, 14, 16, 17]), (34, [6, 7, 11, 18])] 88) (codeAt (codeAt (bodyOf Tryz.prog 88) [1, 1, 1, 1, 1, 1, 0, 1, 0, 0]) [1, 0, 0, 1, 1, 0, 1, 0, 1, 0, 0]) (trimK [6, 7, 11, 12, 13, 14, 15] Kt) [(6, (ptr t6 0)), (7, (.slice store7a store7l store7c)), (11, (.slice rows11a rows11l rows11c)), (12, (.int .i64 i12)), (13, (.slice c13a c13l c13c)), (14, (.int .i64 at14)), (15, (.int .i64 j15))] m :=
  (show _ = _ by kernel_rfl : evCode (cfgOf Tryz.prog pureF pureT C [(9, [6, 7, 11, 12]), (15, [6, 7, 11, 12, 13, 14, 15]), (23, [6, 7, 11, 12, 14, 16, 17]), (34, [6, 7, 11, 18])] 88) (codeAt (codeAt (bodyOf Tryz.prog 88) [1, 1, 1, 1, 1, 1, 0, 1, 0, 0]) [1, 0, 0, 1, 1, 0, 1, 0, 1, 0, 0]) (trimK [6, 7, 11, 12, 13, 14, 15] Kt) [(6, (ptr t6 0)), (7, (.slice store7a store7l store7c)), (11, (.slice rows11a rows11l rows11c)), (12, (.int .i64 i12)), (13, (.slice c13a c13l c13c)), (14, (.int .i64 at14)), (15, (.int .i64 j15))] m = s88_2 C t6 store7a store7l store7c rows11a rows11l rows11c i12 c13a c13l c13c at14 j15 Kt m).symm ▸ h
def s88_2x2 (C : CallT) (t6 : Nat) (store7a : Option Addr) (store7l store7c : Nat) (rows11a : Option Addr) (rows11l rows11c : Nat) (i12 : Int) (c13a : Option Addr) (c13l c13c : Nat) (at14 : Int) (j15 : Int) (Kt : Exit → Fr → Mem → Prop) (m : Mem) : Prop :=
  ifB (decide (at14 < 0))
  (stL m t6 0 [(.int .i64 19), (.int .i64 2), (.int .i64 i12)] fun m_53 =>
  Kt .ret [(6, (ptr t6 0)), (7, (.slice store7a store7l store7c)), (11, (.slice rows11a rows11l rows11c)), (12, (.int .i64 i12))] m_53)
  (loopE [6, 7, 11, 12, 14, 16, 17] (evCode (cfgOf Tryz.prog pureF pureT C [(9, [6, 7, 11, 12]), (15, [6, 7, 11, 12, 13, 14, 15]), (23, [6, 7, 11, 12, 14, 16, 17]), (34, [6, 7, 11, 18])] 88) (codeAt (codeAt (bodyOf Tryz.prog 88) [1, 1, 1, 1, 1, 1, 0, 1, 0, 0]) [1, 0, 0, 1, 1, 0, 1, 1, 1, 1, 0, 1, 0, 0])) (kAt (cfgOf Tryz.prog pureF pureT C [(9, [6, 7, 11, 12]), (15, [6, 7, 11, 12, 13, 14, 15]), (23, [6, 7, 11, 12, 14, 16, 17]), (34, [6, 7, 11, 18])] 88) (codeAt (bodyOf Tryz.prog 88) [1, 1, 1, 1, 1, 1, 0, 1, 0, 0]) [1, 0, 0, 1, 1, 0, 1, 1, 1, 1, 0, 1, 0] (trimK [6, 7, 11, 12] Kt)) [(6, (ptr t6 0)), (7, (.slice store7a store7l store7c)), (11, (.slice rows11a rows11l rows11c)), (12, (.int .i64 i12)), (14, (.int .i64 at14)), (16, (.slice none 0 0)), (17, (.int .i64 0))] m)
theorem e88_2x2 {C : CallT} {kn : Fr → Mem → Prop} {t6 : Nat} {store7a : Option Addr} {store7l store7c : Nat} {rows11a : Option Addr} {rows11l rows11c : Nat} {i12 : Int} {c13a : Option Addr} {c13l c13c : Nat} {at14 : Int} {j15 : Int} {Kt : Exit → Fr → Mem → Prop} {m : Mem} : (andThenE kn (kAt (cfgOf Tryz.prog pureF pureT C [(9, [6, 7, 11, 12]), (15, [6, 7, 11, 12, 13, 14, 15]), (23, [6, 7, 11, 12, 14, 16, 17]), (34, [6, 7, 11, 18])] 88) (codeAt (bodyOf Tryz.prog 88) [1, 1, 1, 1, 1, 1, 0, 1, 0, 0]) [1, 0, 0, 1, 1, 0, 1, 0, 1, 0] (trimK [6, 7, 11, 12] Kt)) (.exit 2) [(6, (ptr t6 0)), (7, (.slice store7a store7l store7c)), (11, (.slice rows11a rows11l rows11c)), (12, (.int .i64 i12)), (13, (.slice c13a c13l c13c)), (14, (.int .i64 at14)), (15, (.int .i64 j15))] m) = s88_2x2 C t6 store7a store7l store7c rows11a rows11l rows11c i12 c13a c13l c13c at14 j15 Kt m := by kernel_rfl
def s88_3 (C : CallT) (t6 : Nat) (store7a : Option Addr) (store7l store7c : Nat) (rows11a : Option Addr) (rows11l rows11c : Nat) (j18 : Int) (Kt : Exit → Fr → Mem → Prop) (m : Mem) : Prop :=
  ifB (decide (j18 < ((store7l : Nat) : Int)))
  (ckP store7a fun b_54 o_54 =>
  ckI j18 store7l fun j_55 =>
  ldSl m b_54 (o_54 + j_55) fun l_56a l_56l l_56c =>
  ifB (((l_56l : Nat) : Int) == 0)
  (stL m t6 0 [(.int .i64 0), (.int .i64 0), (.int .i64 0)] fun m_57 =>
  Kt .ret [(6, (ptr t6 0)), (7, (.slice store7a store7l store7c)), (11, (.slice rows11a rows11l rows11c)), (18, (.int .i64 j18))] m_57)
  (Kt .normal [(6, (ptr t6 0)), (7, (.slice store7a store7l store7c)), (11, (.slice rows11a rows11l rows11c)), (18, (.int .i64 (IntKind.wrap .i64 (j18 + 1))))] m))
  (Kt (.exit 6) [(6, (ptr t6 0)), (7, (.slice store7a store7l store7c)), (11, (.slice rows11a rows11l rows11c)), (18, (.int .i64 j18))] m)
theorem e88_3 {C : CallT} {t6 : Nat} {store7a : Option Addr} {store7l store7c : Nat} {rows11a : Option Addr} {rows11l rows11c : Nat} {j18 : Int} {Kt : Exit → Fr → Mem → Prop} {m : Mem} (h : s88_3 C t6 store7a store7l store7c rows11a rows11l rows11c j18 Kt m) : evCode (cfgOf Tryz.prog pureF pureT C [(9, [6, 7, 11, 12]), (15, [6, 7, 11, 12, 13, 14, 15]), (23, [6, 7, 11, 12, 14, 16, 17]), (34, [6, 7, 11, 18])] 88) (codeAt (bodyOf Tryz.prog 88) [1, 1, 1, 1, 1, 1, 1, 0, 1, 0, 0]) (trimK [6, 7, 11, 18] Kt) [(6, (ptr t6 0)), (7, (.slice store7a store7l store7c)), (11, (.slice rows11a rows11l rows11c)), (18, (.int .i64 j18))] m :=
  (show _ = _ by kernel_rfl : evCode (cfgOf Tryz.prog pureF pureT C [(9, [6, 7, 11, 12]), (15, [6, 7, 11, 12, 13, 14, 15]), (23, [6, 7, 11, 12, 14, 16, 17]), (34, [6, 7, 11, 18])] 88) (codeAt (bodyOf Tryz.prog 88) [1, 1, 1, 1, 1, 1, 1, 0, 1, 0, 0]) (trimK [6, 7, 11, 18] Kt) [(6, (ptr t6 0)), (7, (.slice store7a store7l store7c)), (11, (.slice rows11a rows11l rows11c)), (18, (.int .i64 j18))] m = s88_3 C t6 store7a store7l store7c rows11a rows11l rows11c j18 Kt m).symm ▸ h
def s88_3r (C : CallT) (t6 : Nat) (store7a : Option Addr) (store7l store7c : Nat) (rows11a : Option Addr) (rows11l rows11c : Nat) (j18 : Int) (K : Value → Mem → Prop) (m : Mem) : Prop :=
  ldInt .i64 m t6 0 fun x_58 =>
  ldInt .i64 m t6 1 fun x_59 =>
  ldInt .i64 m t6 2 fun x_60 =>
  K (.agg #[(.int .i64 x_58), (.int .i64 x_59), (.int .i64 x_60)]) m
theorem e88_3r {C : CallT} {kn : Fr → Mem → Prop} {t6 : Nat} {store7a : Option Addr} {store7l store7c : Nat} {rows11a : Option Addr} {rows11l rows11c : Nat} {j18 : Int} {K : Value → Mem → Prop} {m : Mem} : (andThenE kn (kAt (cfgOf Tryz.prog pureF pureT C [(9, [6, 7, 11, 12]), (15, [6, 7, 11, 12, 13, 14, 15]), (23, [6, 7, 11, 12, 14, 16, 17]), (34, [6, 7, 11, 18])] 88) (bodyOf Tryz.prog 88) [1, 1, 1, 1, 1, 1, 1, 0, 1, 0] (endK Tryz.prog 88 K)) .ret [(6, (ptr t6 0)), (7, (.slice store7a store7l store7c)), (11, (.slice rows11a rows11l rows11c)), (18, (.int .i64 j18))] m) = s88_3r C t6 store7a store7l store7c rows11a rows11l rows11c j18 K m := by kernel_rfl
def s88_3x6 (C : CallT) (t6 : Nat) (store7a : Option Addr) (store7l store7c : Nat) (rows11a : Option Addr) (rows11l rows11c : Nat) (j18 : Int) (K : Value → Mem → Prop) (m : Mem) : Prop :=
  stL m t6 0 [(.int .i64 20), (.int .i64 2), (.int .i64 ((rows11l : Nat) : Int))] fun m_61 =>
  ldInt .i64 m_61 t6 0 fun x_62 =>
  ldInt .i64 m_61 t6 1 fun x_63 =>
  ldInt .i64 m_61 t6 2 fun x_64 =>
  K (.agg #[(.int .i64 x_62), (.int .i64 x_63), (.int .i64 x_64)]) m_61
theorem e88_3x6 {C : CallT} {kn : Fr → Mem → Prop} {t6 : Nat} {store7a : Option Addr} {store7l store7c : Nat} {rows11a : Option Addr} {rows11l rows11c : Nat} {j18 : Int} {K : Value → Mem → Prop} {m : Mem} : (andThenE kn (kAt (cfgOf Tryz.prog pureF pureT C [(9, [6, 7, 11, 12]), (15, [6, 7, 11, 12, 13, 14, 15]), (23, [6, 7, 11, 12, 14, 16, 17]), (34, [6, 7, 11, 18])] 88) (bodyOf Tryz.prog 88) [1, 1, 1, 1, 1, 1, 1, 0, 1, 0] (endK Tryz.prog 88 K)) (.exit 6) [(6, (ptr t6 0)), (7, (.slice store7a store7l store7c)), (11, (.slice rows11a rows11l rows11c)), (18, (.int .i64 j18))] m) = s88_3x6 C t6 store7a store7l store7c rows11a rows11l rows11c j18 K m := by kernel_rfl
def s88_4 (C : CallT) (t6 : Nat) (store7a : Option Addr) (store7l store7c : Nat) (rows11a : Option Addr) (rows11l rows11c : Nat) (i12 : Int) (at14 : Int) (rest16a : Option Addr) (rest16l rest16c : Nat) (j17 : Int) (Kt : Exit → Fr → Mem → Prop) (m : Mem) : Prop :=
  ifB (decide (j17 < ((store7l : Nat) : Int)))
  (ifB (j17 != at14)
  (ckP store7a fun b_65 o_65 =>
  ckI j17 store7l fun j_66 =>
  ldSl m b_65 (o_65 + j_66) fun l_67a l_67l l_67c =>
  allocB m (Blk.ofList [(.slice l_67a l_67l l_67c)]) fun b_68 m_69 =>
  rdRow m_69 (some ⟨b_68, 0, none⟩) (1 * 1) fun r_72 =>
  appendC m_69 1 24 [(.slice none 0 0)] rest16a rest16l rest16c 1 r_72 fun a_70 c_70 m_71 =>
  Kt .normal [(6, (ptr t6 0)), (7, (.slice store7a store7l store7c)), (11, (.slice rows11a rows11l rows11c)), (12, (.int .i64 i12)), (14, (.int .i64 at14)), (16, (.slice a_70 (rest16l + 1) c_70)), (17, (.int .i64 (IntKind.wrap .i64 (j17 + 1))))] m_71)
  (Kt .normal [(6, (ptr t6 0)), (7, (.slice store7a store7l store7c)), (11, (.slice rows11a rows11l rows11c)), (12, (.int .i64 i12)), (14, (.int .i64 at14)), (16, (.slice rest16a rest16l rest16c)), (17, (.int .i64 (IntKind.wrap .i64 (j17 + 1))))] m))
  (Kt (.exit 4) [(6, (ptr t6 0)), (7, (.slice store7a store7l store7c)), (11, (.slice rows11a rows11l rows11c)), (12, (.int .i64 i12)), (14, (.int .i64 at14)), (16, (.slice rest16a rest16l rest16c)), (17, (.int .i64 j17))] m)
theorem e88_4 {C : CallT} {t6 : Nat} {store7a : Option Addr} {store7l store7c : Nat} {rows11a : Option Addr} {rows11l rows11c : Nat} {i12 : Int} {at14 : Int} {rest16a : Option Addr} {rest16l rest16c : Nat} {j17 : Int} {Kt : Exit → Fr → Mem → Prop} {m : Mem} (h : s88_4 C t6 store7a store7l store7c rows11a rows11l rows11c i12 at14 rest16a rest16l rest16c j17 Kt m) : evCode (cfgOf Tryz.prog pureF pureT C [(9, [6, 7, 11, 12]), (15, [6, 7, 11, 12, 13, 14, 15]), (23, [6, 7, 11, 12, 14, 16, 17]), (34, [6, 7, 11, 18])] 88) (codeAt (codeAt (bodyOf Tryz.prog 88) [1, 1, 1, 1, 1, 1, 0, 1, 0, 0]) [1, 0, 0, 1, 1, 0, 1, 1, 1, 1, 0, 1, 0, 0]) (trimK [6, 7, 11, 12, 14, 16, 17] Kt) [(6, (ptr t6 0)), (7, (.slice store7a store7l store7c)), (11, (.slice rows11a rows11l rows11c)), (12, (.int .i64 i12)), (14, (.int .i64 at14)), (16, (.slice rest16a rest16l rest16c)), (17, (.int .i64 j17))] m :=
  (show _ = _ by kernel_rfl : evCode (cfgOf Tryz.prog pureF pureT C [(9, [6, 7, 11, 12]), (15, [6, 7, 11, 12, 13, 14, 15]), (23, [6, 7, 11, 12, 14, 16, 17]), (34, [6, 7, 11, 18])] 88) (codeAt (codeAt (bodyOf Tryz.prog 88) [1, 1, 1, 1, 1, 1, 0, 1, 0, 0]) [1, 0, 0, 1, 1, 0, 1, 1, 1, 1, 0, 1, 0, 0]) (trimK [6, 7, 11, 12, 14, 16, 17] Kt) [(6, (ptr t6 0)), (7, (.slice store7a store7l store7c)), (11, (.slice rows11a rows11l rows11c)), (12, (.int .i64 i12)), (14, (.int .i64 at14)), (16, (.slice rest16a rest16l rest16c)), (17, (.int .i64 j17))] m = s88_4 C t6 store7a store7l store7c rows11a rows11l rows11c i12 at14 rest16a rest16l rest16c j17 Kt m).symm ▸ h
def s88_4x4 (C : CallT) (t6 : Nat) (store7a : Option Addr) (store7l store7c : Nat) (rows11a : Option Addr) (rows11l rows11c : Nat) (i12 : Int) (at14 : Int) (rest16a : Option Addr) (rest16l rest16c : Nat) (j17 : Int) (Kt : Exit → Fr → Mem → Prop) (m : Mem) : Prop :=
  Kt .normal [(6, (ptr t6 0)), (7, (.slice rest16a rest16l rest16c)), (11, (.slice rows11a rows11l rows11c)), (12, (.int .i64 (IntKind.wrap .i64 (i12 + 1))))] m
theorem e88_4x4 {C : CallT} {kn : Fr → Mem → Prop} {t6 : Nat} {store7a : Option Addr} {store7l store7c : Nat} {rows11a : Option Addr} {rows11l rows11c : Nat} {i12 : Int} {at14 : Int} {rest16a : Option Addr} {rest16l rest16c : Nat} {j17 : Int} {Kt : Exit → Fr → Mem → Prop} {m : Mem} : (andThenE kn (kAt (cfgOf Tryz.prog pureF pureT C [(9, [6, 7, 11, 12]), (15, [6, 7, 11, 12, 13, 14, 15]), (23, [6, 7, 11, 12, 14, 16, 17]), (34, [6, 7, 11, 18])] 88) (codeAt (bodyOf Tryz.prog 88) [1, 1, 1, 1, 1, 1, 0, 1, 0, 0]) [1, 0, 0, 1, 1, 0, 1, 1, 1, 1, 0, 1, 0] (trimK [6, 7, 11, 12] Kt)) (.exit 4) [(6, (ptr t6 0)), (7, (.slice store7a store7l store7c)), (11, (.slice rows11a rows11l rows11c)), (12, (.int .i64 i12)), (14, (.int .i64 at14)), (16, (.slice rest16a rest16l rest16c)), (17, (.int .i64 j17))] m) = s88_4x4 C t6 store7a store7l store7c rows11a rows11l rows11c i12 at14 rest16a rest16l rest16c j17 Kt m := by kernel_rfl
def F88_1 (t6 : Nat) (store7a : Option Addr) (store7l store7c : Nat) (rows11a : Option Addr) (rows11l rows11c : Nat) (i12 : Int) : Fr := [(6, (ptr t6 0)), (7, (.slice store7a store7l store7c)), (11, (.slice rows11a rows11l rows11c)), (12, (.int .i64 i12))]
theorem loop88_1 {C : CallT} {γ : Type} {t6 : Nat} {rows11a : Option Addr} {rows11l rows11c : Nat} {K : Value → Mem → Prop} {m : Mem} (J : γ → Option Addr → Nat → Nat → Int → Mem → Prop) (μ : γ → Option Addr → Nat → Nat → Int → Nat) (g : γ) {store7a : Option Addr} {store7l store7c : Nat} {i12 : Int} (hJ : J g store7a store7l store7c i12 m)
    (hs : ∀ g store7a store7l store7c i12 m, J g store7a store7l store7c i12 m → s88_1 C t6 store7a store7l store7c rows11a rows11l rows11c i12 (andThenE (fun fr m' => ∃ g' store7a' store7l' store7c' i12', fr = F88_1 t6 store7a' store7l' store7c' rows11a rows11l rows11c i12' ∧ J g' store7a' store7l' store7c' i12' m' ∧ μ g' store7a' store7l' store7c' i12' < μ g store7a store7l store7c i12) (kAt (cfgOf Tryz.prog pureF pureT C [(9, [6, 7, 11, 12]), (15, [6, 7, 11, 12, 13, 14, 15]), (23, [6, 7, 11, 12, 14, 16, 17]), (34, [6, 7, 11, 18])] 88) (bodyOf Tryz.prog 88) [1, 1, 1, 1, 1, 1, 0, 1, 0] (endK Tryz.prog 88 K))) m) :
    loopE [6, 7, 11, 12] (evCode (cfgOf Tryz.prog pureF pureT C [(9, [6, 7, 11, 12]), (15, [6, 7, 11, 12, 13, 14, 15]), (23, [6, 7, 11, 12, 14, 16, 17]), (34, [6, 7, 11, 18])] 88) (codeAt (bodyOf Tryz.prog 88) [1, 1, 1, 1, 1, 1, 0, 1, 0, 0])) (kAt (cfgOf Tryz.prog pureF pureT C [(9, [6, 7, 11, 12]), (15, [6, 7, 11, 12, 13, 14, 15]), (23, [6, 7, 11, 12, 14, 16, 17]), (34, [6, 7, 11, 18])] 88) (bodyOf Tryz.prog 88) [1, 1, 1, 1, 1, 1, 0, 1, 0] (endK Tryz.prog 88 K)) [(6, (ptr t6 0)), (7, (.slice store7a store7l store7c)), (11, (.slice rows11a rows11l rows11c)), (12, (.int .i64 i12))] m := by
  refine loop_rule (σ := γ × Option Addr × Nat × Nat × Int) (fun s => F88_1 t6 s.2.1 s.2.2.1 s.2.2.2.1 rows11a rows11l rows11c s.2.2.2.2) (fun s m => J s.1 s.2.1 s.2.2.1 s.2.2.2.1 s.2.2.2.2 m) (fun s => μ s.1 s.2.1 s.2.2.1 s.2.2.2.1 s.2.2.2.2) (g, store7a, store7l, store7c, i12) rfl hJ ?_
  intro s m hJ
  have h := hs s.1 s.2.1 s.2.2.1 s.2.2.2.1 s.2.2.2.2 m hJ
  refine e88_1 ?_
  refine Eq.mp (congrArg (fun B => s88_1 C t6 s.2.1 s.2.2.1 s.2.2.2.1 rows11a rows11l rows11c s.2.2.2.2 (andThenE B (kAt (cfgOf Tryz.prog pureF pureT C [(9, [6, 7, 11, 12]), (15, [6, 7, 11, 12, 13, 14, 15]), (23, [6, 7, 11, 12, 14, 16, 17]), (34, [6, 7, 11, 18])] 88) (bodyOf Tryz.prog 88) [1, 1, 1, 1, 1, 1, 0, 1, 0] (endK Tryz.prog 88 K))) m) ?_) h
  funext fr m'
  apply propext
  constructor
  · rintro ⟨g', store7a', store7l', store7c', i12', h1, h2, h3⟩
    exact ⟨(g', store7a', store7l', store7c', i12'), h1, h2, h3⟩
  · rintro ⟨⟨g', store7a', store7l', store7c', i12'⟩, h1, h2, h3⟩
    exact ⟨g', store7a', store7l', store7c', i12', h1, h2, h3⟩
def F88_2 (t6 : Nat) (store7a : Option Addr) (store7l store7c : Nat) (rows11a : Option Addr) (rows11l rows11c : Nat) (i12 : Int) (c13a : Option Addr) (c13l c13c : Nat) (at14 : Int) (j15 : Int) : Fr := [(6, (ptr t6 0)), (7, (.slice store7a store7l store7c)), (11, (.slice rows11a rows11l rows11c)), (12, (.int .i64 i12)), (13, (.slice c13a c13l c13c)), (14, (.int .i64 at14)), (15, (.int .i64 j15))]
theorem loop88_2 {C : CallT} {γ : Type} {t6 : Nat} {store7a : Option Addr} {store7l store7c : Nat} {rows11a : Option Addr} {rows11l rows11c : Nat} {i12 : Int} {c13a : Option Addr} {c13l c13c : Nat} {Kt : Exit → Fr → Mem → Prop} {m : Mem} (J : γ → Int → Int → Mem → Prop) (μ : γ → Int → Int → Nat) (g : γ) {at14 : Int} {j15 : Int} (hJ : J g at14 j15 m)
    (hs : ∀ g at14 j15 m, J g at14 j15 m → s88_2 C t6 store7a store7l store7c rows11a rows11l rows11c i12 c13a c13l c13c at14 j15 (andThenE (fun fr m' => ∃ g' at14' j15', fr = F88_2 t6 store7a store7l store7c rows11a rows11l rows11c i12 c13a c13l c13c at14' j15' ∧ J g' at14' j15' m' ∧ μ g' at14' j15' < μ g at14 j15) (kAt (cfgOf Tryz.prog pureF pureT C [(9, [6, 7, 11, 12]), (15, [6, 7, 11, 12, 13, 14, 15]), (23, [6, 7, 11, 12, 14, 16, 17]), (34, [6, 7, 11, 18])] 88) (codeAt (bodyOf Tryz.prog 88) [1, 1, 1, 1, 1, 1, 0, 1, 0, 0]) [1, 0, 0, 1, 1, 0, 1, 0, 1, 0] (trimK [6, 7, 11, 12] Kt))) m) :
    loopE [6, 7, 11, 12, 13, 14, 15] (evCode (cfgOf Tryz.prog pureF pureT C [(9, [6, 7, 11, 12]), (15, [6, 7, 11, 12, 13, 14, 15]), (23, [6, 7, 11, 12, 14, 16, 17]), (34, [6, 7, 11, 18])] 88) (codeAt (codeAt (bodyOf Tryz.prog 88) [1, 1, 1, 1, 1, 1, 0, 1, 0, 0]) [1, 0, 0, 1, 1, 0, 1, 0, 1, 0, 0])) (kAt (cfgOf Tryz.prog pureF pureT C [(9, [6, 7, 11, 12]), (15, [6, 7, 11, 12, 13, 14, 15]), (23, [6, 7, 11, 12, 14, 16, 17]), (34, [6, 7, 11, 18])] 88) (codeAt (bodyOf Tryz.prog 88) [1, 1, 1, 1, 1, 1, 0, 1, 0, 0]) [1, 0, 0, 1, 1, 0, 1, 0, 1, 0] (trimK [6, 7, 11, 12] Kt)) [(6, (ptr t6 0)), (7, (.slice store7a store7l store7c)), (11, (.slice rows11a rows11l rows11c)), (12, (.int .i64 i12)), (13, (.slice c13a c13l c13c)), (14, (.int .i64 at14)), (15, (.int .i64 j15))] m := by
  refine loop_rule (σ := γ × Int × Int) (fun s => F88_2 t6 store7a store7l store7c rows11a rows11l rows11c i12 c13a c13l c13c s.2.1 s.2.2) (fun s m => J s.1 s.2.1 s.2.2 m) (fun s => μ s.1 s.2.1 s.2.2) (g, at14, j15) rfl hJ ?_
  intro s m hJ
  have h := hs s.1 s.2.1 s.2.2 m hJ
  refine e88_2 ?_
  refine Eq.mp (congrArg (fun B => s88_2 C t6 store7a store7l store7c rows11a rows11l rows11c i12 c13a c13l c13c s.2.1 s.2.2 (andThenE B (kAt (cfgOf Tryz.prog pureF pureT C [(9, [6, 7, 11, 12]), (15, [6, 7, 11, 12, 13, 14, 15]), (23, [6, 7, 11, 12, 14, 16, 17]), (34, [6, 7, 11, 18])] 88) (codeAt (bodyOf Tryz.prog 88) [1, 1, 1, 1, 1, 1, 0, 1, 0, 0]) [1, 0, 0, 1, 1, 0, 1, 0, 1, 0] (trimK [6, 7, 11, 12] Kt))) m) ?_) h
  funext fr m'
  apply propext
  constructor
  · rintro ⟨g', at14', j15', h1, h2, h3⟩
    exact ⟨(g', at14', j15'), h1, h2, h3⟩
  · rintro ⟨⟨g', at14', j15'⟩, h1, h2, h3⟩
    exact ⟨g', at14', j15', h1, h2, h3⟩
def F88_3 (t6 : Nat) (store7a : Option Addr) (store7l store7c : Nat) (rows11a : Option Addr) (rows11l rows11c : Nat) (j18 : Int) : Fr := [(6, (ptr t6 0)), (7, (.slice store7a store7l store7c)), (11, (.slice rows11a rows11l rows11c)), (18, (.int .i64 j18))]
theorem loop88_3 {C : CallT} {γ : Type} {t6 : Nat} {store7a : Option Addr} {store7l store7c : Nat} {rows11a : Option Addr} {rows11l rows11c : Nat} {K : Value → Mem → Prop} {m : Mem} (J : γ → Int → Mem → Prop) (μ : γ → Int → Nat) (g : γ) {j18 : Int} (hJ : J g j18 m)
    (hs : ∀ g j18 m, J g j18 m → s88_3 C t6 store7a store7l store7c rows11a rows11l rows11c j18 (andThenE (fun fr m' => ∃ g' j18', fr = F88_3 t6 store7a store7l store7c rows11a rows11l rows11c j18' ∧ J g' j18' m' ∧ μ g' j18' < μ g j18) (kAt (cfgOf Tryz.prog pureF pureT C [(9, [6, 7, 11, 12]), (15, [6, 7, 11, 12, 13, 14, 15]), (23, [6, 7, 11, 12, 14, 16, 17]), (34, [6, 7, 11, 18])] 88) (bodyOf Tryz.prog 88) [1, 1, 1, 1, 1, 1, 1, 0, 1, 0] (endK Tryz.prog 88 K))) m) :
    loopE [6, 7, 11, 18] (evCode (cfgOf Tryz.prog pureF pureT C [(9, [6, 7, 11, 12]), (15, [6, 7, 11, 12, 13, 14, 15]), (23, [6, 7, 11, 12, 14, 16, 17]), (34, [6, 7, 11, 18])] 88) (codeAt (bodyOf Tryz.prog 88) [1, 1, 1, 1, 1, 1, 1, 0, 1, 0, 0])) (kAt (cfgOf Tryz.prog pureF pureT C [(9, [6, 7, 11, 12]), (15, [6, 7, 11, 12, 13, 14, 15]), (23, [6, 7, 11, 12, 14, 16, 17]), (34, [6, 7, 11, 18])] 88) (bodyOf Tryz.prog 88) [1, 1, 1, 1, 1, 1, 1, 0, 1, 0] (endK Tryz.prog 88 K)) [(6, (ptr t6 0)), (7, (.slice store7a store7l store7c)), (11, (.slice rows11a rows11l rows11c)), (18, (.int .i64 j18))] m := by
  refine loop_rule (σ := γ × Int) (fun s => F88_3 t6 store7a store7l store7c rows11a rows11l rows11c s.2) (fun s m => J s.1 s.2 m) (fun s => μ s.1 s.2) (g, j18) rfl hJ ?_
  intro s m hJ
  have h := hs s.1 s.2 m hJ
  refine e88_3 ?_
  refine Eq.mp (congrArg (fun B => s88_3 C t6 store7a store7l store7c rows11a rows11l rows11c s.2 (andThenE B (kAt (cfgOf Tryz.prog pureF pureT C [(9, [6, 7, 11, 12]), (15, [6, 7, 11, 12, 13, 14, 15]), (23, [6, 7, 11, 12, 14, 16, 17]), (34, [6, 7, 11, 18])] 88) (bodyOf Tryz.prog 88) [1, 1, 1, 1, 1, 1, 1, 0, 1, 0] (endK Tryz.prog 88 K))) m) ?_) h
  funext fr m'
  apply propext
  constructor
  · rintro ⟨g', j18', h1, h2, h3⟩
    exact ⟨(g', j18'), h1, h2, h3⟩
  · rintro ⟨⟨g', j18'⟩, h1, h2, h3⟩
    exact ⟨g', j18', h1, h2, h3⟩
def F88_4 (t6 : Nat) (store7a : Option Addr) (store7l store7c : Nat) (rows11a : Option Addr) (rows11l rows11c : Nat) (i12 : Int) (at14 : Int) (rest16a : Option Addr) (rest16l rest16c : Nat) (j17 : Int) : Fr := [(6, (ptr t6 0)), (7, (.slice store7a store7l store7c)), (11, (.slice rows11a rows11l rows11c)), (12, (.int .i64 i12)), (14, (.int .i64 at14)), (16, (.slice rest16a rest16l rest16c)), (17, (.int .i64 j17))]
theorem loop88_4 {C : CallT} {γ : Type} {t6 : Nat} {store7a : Option Addr} {store7l store7c : Nat} {rows11a : Option Addr} {rows11l rows11c : Nat} {i12 : Int} {at14 : Int} {Kt : Exit → Fr → Mem → Prop} {m : Mem} (J : γ → Option Addr → Nat → Nat → Int → Mem → Prop) (μ : γ → Option Addr → Nat → Nat → Int → Nat) (g : γ) {rest16a : Option Addr} {rest16l rest16c : Nat} {j17 : Int} (hJ : J g rest16a rest16l rest16c j17 m)
    (hs : ∀ g rest16a rest16l rest16c j17 m, J g rest16a rest16l rest16c j17 m → s88_4 C t6 store7a store7l store7c rows11a rows11l rows11c i12 at14 rest16a rest16l rest16c j17 (andThenE (fun fr m' => ∃ g' rest16a' rest16l' rest16c' j17', fr = F88_4 t6 store7a store7l store7c rows11a rows11l rows11c i12 at14 rest16a' rest16l' rest16c' j17' ∧ J g' rest16a' rest16l' rest16c' j17' m' ∧ μ g' rest16a' rest16l' rest16c' j17' < μ g rest16a rest16l rest16c j17) (kAt (cfgOf Tryz.prog pureF pureT C [(9, [6, 7, 11, 12]), (15, [6, 7, 11, 12, 13, 14, 15]), (23, [6, 7, 11, 12, 14, 16, 17]), (34, [6, 7, 11, 18])] 88) (codeAt (bodyOf Tryz.prog 88) [1, 1, 1, 1, 1, 1, 0, 1, 0, 0]) [1, 0, 0, 1, 1, 0, 1, 1, 1, 1, 0, 1, 0] (trimK [6, 7, 11, 12] Kt))) m) :
    loopE [6, 7, 11, 12, 14, 16, 17] (evCode (cfgOf Tryz.prog pureF pureT C [(9, [6, 7, 11, 12]), (15, [6, 7, 11, 12, 13, 14, 15]), (23, [6, 7, 11, 12, 14, 16, 17]), (34, [6, 7, 11, 18])] 88) (codeAt (codeAt (bodyOf Tryz.prog 88) [1, 1, 1, 1, 1, 1, 0, 1, 0, 0]) [1, 0, 0, 1, 1, 0, 1, 1, 1, 1, 0, 1, 0, 0])) (kAt (cfgOf Tryz.prog pureF pureT C [(9, [6, 7, 11, 12]), (15, [6, 7, 11, 12, 13, 14, 15]), (23, [6, 7, 11, 12, 14, 16, 17]), (34, [6, 7, 11, 18])] 88) (codeAt (bodyOf Tryz.prog 88) [1, 1, 1, 1, 1, 1, 0, 1, 0, 0]) [1, 0, 0, 1, 1, 0, 1, 1, 1, 1, 0, 1, 0] (trimK [6, 7, 11, 12] Kt)) [(6, (ptr t6 0)), (7, (.slice store7a store7l store7c)), (11, (.slice rows11a rows11l rows11c)), (12, (.int .i64 i12)), (14, (.int .i64 at14)), (16, (.slice rest16a rest16l rest16c)), (17, (.int .i64 j17))] m := by
  refine loop_rule (σ := γ × Option Addr × Nat × Nat × Int) (fun s => F88_4 t6 store7a store7l store7c rows11a rows11l rows11c i12 at14 s.2.1 s.2.2.1 s.2.2.2.1 s.2.2.2.2) (fun s m => J s.1 s.2.1 s.2.2.1 s.2.2.2.1 s.2.2.2.2 m) (fun s => μ s.1 s.2.1 s.2.2.1 s.2.2.2.1 s.2.2.2.2) (g, rest16a, rest16l, rest16c, j17) rfl hJ ?_
  intro s m hJ
  have h := hs s.1 s.2.1 s.2.2.1 s.2.2.2.1 s.2.2.2.2 m hJ
  refine e88_4 ?_
  refine Eq.mp (congrArg (fun B => s88_4 C t6 store7a store7l store7c rows11a rows11l rows11c i12 at14 s.2.1 s.2.2.1 s.2.2.2.1 s.2.2.2.2 (andThenE B (kAt (cfgOf Tryz.prog pureF pureT C [(9, [6, 7, 11, 12]), (15, [6, 7, 11, 12, 13, 14, 15]), (23, [6, 7, 11, 12, 14, 16, 17]), (34, [6, 7, 11, 18])] 88) (codeAt (bodyOf Tryz.prog 88) [1, 1, 1, 1, 1, 1, 0, 1, 0, 0]) [1, 0, 0, 1, 1, 0, 1, 1, 1, 1, 0, 1, 0] (trimK [6, 7, 11, 12] Kt))) m) ?_) h
  funext fr m'
  apply propext
  constructor
  · rintro ⟨g', rest16a', rest16l', rest16c', j17', h1, h2, h3⟩
    exact ⟨(g', rest16a', rest16l', rest16c', j17'), h1, h2, h3⟩
  · rintro ⟨⟨g', rest16a', rest16l', rest16c', j17'⟩, h1, h2, h3⟩
    exact ⟨g', rest16a', rest16l', rest16c', j17', h1, h2, h3⟩

end Go.Proofs.Qxb6500974aGreat
