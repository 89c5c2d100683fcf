import Derived.Test.Qxb6500974aGreatChecked
import Derived.Test.Qxb6500974aGreatEngF
import Derived.Eval
set_option linter.all false
set_option linter.unusedSimpArgs false
namespace Go.Proofs.Qxb6500974aGreat
open Go.Eng
theorem mixedP : Tryz.prog.follows .mixedOrders = true := Tryz.checked.mixed
theorem wrap_u64_nonneg (x : Int) : 0 ≤ IntKind.wrap .u64 x := by simp [IntKind.wrap, IntKind.signed, IntKind.bits]; omega
theorem noPure : PureOk Tryz.prog (fun _ _ => none) := by intro f vs v h; cases h

def goVar (l : Int) : Int := if l < 0 then IntKind.wrap .i64 (0 - l) else l
def goInterval (i : Int) : Int := if i < 0 then 0 else if i ≥ 4 then 0 else IntKind.wrap .i64 (i + 1)
def goSlotBit (s : Int) : Int := shlV .u64 1 (IntKind.wrap .u64 (bAnd .i64 s 63))
def goGoodLit (l : Int) : Bool := decide (l ≠ 0 ∧ -12 ≤ l ∧ l ≤ 12)
def goClass (c : Int) : Int := if c = 32 ∨ c = 9 ∨ c = 13 ∨ c = 10 then 1 else if c = 45 then 3 else if c = 99 then 4 else if c = 100 then 5 else if 48 ≤ c ∧ c ≤ 57 then 2 else 0
def goBit (id : Int) : Int := shlV .u64 1 (IntKind.wrap .u64 id)
def goHas (set id : Int) : Bool := (bAnd .u64 (shrV .u64 set (IntKind.wrap .u64 id)) 1) == 1
def goWidth (x : Int) : Int := if x = 13 ∨ x = 0 then 2 else if x < 0 then (if IntKind.wrap .i64 (0 - x) ≥ 10 then 4 else 3) else (if x ≥ 10 then 3 else 2)
def goBitOf (v : Int) : Int := shlV .u16 1 (IntKind.wrap .u64 (bAnd .i64 (IntKind.wrap .i64 (v - 1)) 15))
def goSpace (c : Int) : Bool := decide (c = 32 ∨ c = 9 ∨ c = 13 ∨ c = 10)
def goCode (l : Int) : Int := if l > 0 then IntKind.wrap .i64 (2 * l) else IntKind.wrap .i64 (1 - IntKind.wrap .i64 (2 * l))
def goBit16 (v : Int) : Int := shlV .u16 1 (IntKind.wrap .u64 (bAnd .i64 v 15))
def goIsVar (v : Int) : Bool := decide (1 ≤ v ∧ v ≤ 12)
def goOne (x : Int) : Bool := decide (x ≠ 0) && ((bAnd .u16 x (IntKind.wrap .u16 (x - 1))) == 0)
def goTrue (l mask : Int) : Bool := ((bAnd .i64 (shrV .i64 mask (IntKind.wrap .u64 (IntKind.wrap .i64 (goVar l - 1)))) 1) == 1) == (decide (l > 0))
theorem q67 (l : Int) (K : Value → Prop) : evFnP Tryz.prog (fun _ _ => none) 67 [.int .i64 l] K = (ifB (decide (l < 0)) (K (.int .i64 (IntKind.wrap .i64 (0 - l)))) (K (.int .i64 l))) := by kernel_rfl
theorem p67 (l : Int) : Bx (evFnP Tryz.prog (fun _ _ => none) 67 [.int .i64 l] (fun r => r = .int .i64 (goVar l))) := by
  refine ⟨?_⟩
  rw [q67]
  simp only [ifB, goVar]
  repeat' split
  all_goals simp_all [IntKind.wrap, IntKind.signed, IntKind.bits]
  all_goals omega
theorem q47 (i : Int) (K : Value → Prop) : evFnP Tryz.prog (fun _ _ => none) 47 [.int .i64 i] K = (ifB (decide (i < 0)) (K (.int .i64 0)) (ifB (decide (i ≥ 4)) (K (.int .i64 0)) (K (.int .i64 (IntKind.wrap .i64 (i + 1)))))) := by kernel_rfl
theorem p47 (i : Int) : Bx (evFnP Tryz.prog (fun _ _ => none) 47 [.int .i64 i] (fun r => r = .int .i64 (goInterval i))) := by
  refine ⟨?_⟩
  rw [q47]
  simp only [ifB, goInterval]
  repeat' split
  all_goals simp_all [IntKind.wrap, IntKind.signed, IntKind.bits]
  all_goals omega
theorem q48 (s : Int) (K : Value → Prop) : evFnP Tryz.prog (fun _ _ => none) 48 [.int .i64 s] K = (0 ≤ (IntKind.wrap .u64 (bAnd .i64 s 63)) ∧ K (.int .u64 (shlV .u64 1 (IntKind.wrap .u64 (bAnd .i64 s 63))))) := by kernel_rfl
theorem p48 (s : Int) : Bx (evFnP Tryz.prog (fun _ _ => none) 48 [.int .i64 s] (fun r => r = .int .u64 (goSlotBit s))) := by
  refine ⟨?_⟩
  rw [q48]
  exact ⟨wrap_u64_nonneg _, rfl⟩
theorem q66 (l : Int) (K : Value → Prop) : evFnP Tryz.prog (fun _ _ => none) 66 [.int .i64 l] K = (ifB (l != 0) (ifB (decide (l ≥ (-12))) (K (.bool (decide (l ≤ 12)))) (K (.bool false))) (K (.bool false))) := by kernel_rfl
theorem p66 (l : Int) : Bx (evFnP Tryz.prog (fun _ _ => none) 66 [.int .i64 l] (fun r => r = .bool (goGoodLit l))) := by
  refine ⟨?_⟩
  rw [q66]
  simp only [ifB, goGoodLit]
  repeat' split
  all_goals simp_all [IntKind.wrap, IntKind.signed, IntKind.bits]
  all_goals omega
theorem q91 (c : Int) (K : Value → Prop) : evFnP Tryz.prog (fun _ _ => none) 91 [.int .u8 c] K = (ifB (c == 32) (ifB (c == 32) (K (.int .i64 1)) (ifB (c == 45) (K (.int .i64 3)) (ifB (c == 99) (K (.int .i64 4)) (ifB (c == 100) (K (.int .i64 5)) (ifB (decide (c ≥ 48)) (ifB (decide (c ≤ 57)) (K (.int .i64 2)) (K (.int .i64 0))) (K (.int .i64 0))))))) (ifB (c == 9) (ifB (c == 9) (K (.int .i64 1)) (ifB (c == 45) (K (.int .i64 3)) (ifB (c == 99) (K (.int .i64 4)) (ifB (c == 100) (K (.int .i64 5)) (ifB (decide (c ≥ 48)) (ifB (decide (c ≤ 57)) (K (.int .i64 2)) (K (.int .i64 0))) (K (.int .i64 0))))))) (ifB (c == 13) (ifB (c == 13) (K (.int .i64 1)) (ifB (c == 45) (K (.int .i64 3)) (ifB (c == 99) (K (.int .i64 4)) (ifB (c == 100) (K (.int .i64 5)) (ifB (decide (c ≥ 48)) (ifB (decide (c ≤ 57)) (K (.int .i64 2)) (K (.int .i64 0))) (K (.int .i64 0))))))) (ifB (c == 10) (K (.int .i64 1)) (ifB (c == 45) (K (.int .i64 3)) (ifB (c == 99) (K (.int .i64 4)) (ifB (c == 100) (K (.int .i64 5)) (ifB (decide (c ≥ 48)) (ifB (decide (c ≤ 57)) (K (.int .i64 2)) (K (.int .i64 0))) (K (.int .i64 0)))))))))) := by kernel_rfl
theorem p91 (c : Int) : Bx (evFnP Tryz.prog (fun _ _ => none) 91 [.int .u8 c] (fun r => r = .int .i64 (goClass c))) := by
  refine ⟨?_⟩
  rw [q91]
  simp only [ifB, goClass]
  repeat' split
  all_goals simp_all [IntKind.wrap, IntKind.signed, IntKind.bits]
  all_goals omega
theorem q97 (id : Int) (K : Value → Prop) : evFnP Tryz.prog (fun _ _ => none) 97 [.int .i64 id] K = (0 ≤ (IntKind.wrap .u64 id) ∧ K (.int .u64 (shlV .u64 1 (IntKind.wrap .u64 id)))) := by kernel_rfl
theorem p97 (id : Int) : Bx (evFnP Tryz.prog (fun _ _ => none) 97 [.int .i64 id] (fun r => r = .int .u64 (goBit id))) := by
  refine ⟨?_⟩
  rw [q97]
  exact ⟨wrap_u64_nonneg _, rfl⟩
theorem q98 (set id : Int) (K : Value → Prop) : evFnP Tryz.prog (fun _ _ => none) 98 [.int .u64 set, .int .i64 id] K = (0 ≤ (IntKind.wrap .u64 id) ∧ K (.bool ((bAnd .u64 (shrV .u64 set (IntKind.wrap .u64 id)) 1) == 1))) := by kernel_rfl
theorem p98 (set id : Int) : Bx (evFnP Tryz.prog (fun _ _ => none) 98 [.int .u64 set, .int .i64 id] (fun r => r = .bool (goHas set id))) := by
  refine ⟨?_⟩
  rw [q98]
  exact ⟨wrap_u64_nonneg _, rfl⟩
theorem q116 (x : Int) (K : Value → Prop) : evFnP Tryz.prog (fun _ _ => none) 116 [.int .i64 x] K = (ifB (x == 13) (K (.int .i64 2)) (ifB (x == 0) (K (.int .i64 2)) (ifB (decide (x < 0)) (ifB (decide ((IntKind.wrap .i64 (0 - x)) ≥ 10)) (K (.int .i64 (IntKind.wrap .i64 ((IntKind.wrap .i64 (2 + 1)) + 1)))) (K (.int .i64 (IntKind.wrap .i64 (2 + 1))))) (ifB (decide (x ≥ 10)) (K (.int .i64 (IntKind.wrap .i64 (2 + 1)))) (K (.int .i64 2)))))) := by kernel_rfl
theorem p116 (x : Int) : Bx (evFnP Tryz.prog (fun _ _ => none) 116 [.int .i64 x] (fun r => r = .int .i64 (goWidth x))) := by
  refine ⟨?_⟩
  rw [q116]
  simp only [ifB, goWidth]
  repeat' split
  all_goals simp_all [IntKind.wrap, IntKind.signed, IntKind.bits]
  all_goals omega
theorem q118 (v : Int) (K : Value → Prop) : evFnP Tryz.prog (fun _ _ => none) 118 [.int .i64 v] K = (0 ≤ (IntKind.wrap .u64 (bAnd .i64 (IntKind.wrap .i64 (v - 1)) 15)) ∧ K (.int .u16 (shlV .u16 1 (IntKind.wrap .u64 (bAnd .i64 (IntKind.wrap .i64 (v - 1)) 15))))) := by kernel_rfl
theorem p118 (v : Int) : Bx (evFnP Tryz.prog (fun _ _ => none) 118 [.int .i64 v] (fun r => r = .int .u16 (goBitOf v))) := by
  refine ⟨?_⟩
  rw [q118]
  exact ⟨wrap_u64_nonneg _, rfl⟩
theorem q128 (c : Int) (K : Value → Prop) : evFnP Tryz.prog (fun _ _ => none) 128 [.int .u8 c] K = (ifB (c == 32) (K (.bool true)) (ifB (c == 9) (K (.bool true)) (ifB (c == 13) (K (.bool true)) (K (.bool (c == 10)))))) := by kernel_rfl
theorem p128 (c : Int) : Bx (evFnP Tryz.prog (fun _ _ => none) 128 [.int .u8 c] (fun r => r = .bool (goSpace c))) := by
  refine ⟨?_⟩
  rw [q128]
  simp only [ifB, goSpace]
  by_cases h1 : c = 32
  · simp [h1]
  · by_cases h2 : c = 9
    · simp [h2]
    · by_cases h3 : c = 13
      · simp [h3]
      · have e1 : (c == 32) = false := by simpa using h1
        have e2 : (c == 9) = false := by simpa using h2
        have e3 : (c == 13) = false := by simpa using h3
        simp only [e1, e2, e3, h1, h2, h3, false_or]
        rfl
theorem q137 (l : Int) (K : Value → Prop) : evFnP Tryz.prog (fun _ _ => none) 137 [.int .i64 l] K = (ifB (decide (l > 0)) (K (.int .i64 (IntKind.wrap .i64 (2 * l)))) (K (.int .i64 (IntKind.wrap .i64 (1 - (IntKind.wrap .i64 (2 * l))))))) := by kernel_rfl
theorem p137 (l : Int) : Bx (evFnP Tryz.prog (fun _ _ => none) 137 [.int .i64 l] (fun r => r = .int .i64 (goCode l))) := by
  refine ⟨?_⟩
  rw [q137]
  simp only [ifB, goCode]
  repeat' split
  all_goals simp_all [IntKind.wrap, IntKind.signed, IntKind.bits]
  all_goals omega
theorem q140 (v : Int) (K : Value → Prop) : evFnP Tryz.prog (fun _ _ => none) 140 [.int .i64 v] K = (0 ≤ (IntKind.wrap .u64 (bAnd .i64 v 15)) ∧ K (.int .u16 (shlV .u16 1 (IntKind.wrap .u64 (bAnd .i64 v 15))))) := by kernel_rfl
theorem p140 (v : Int) : Bx (evFnP Tryz.prog (fun _ _ => none) 140 [.int .i64 v] (fun r => r = .int .u16 (goBit16 v))) := by
  refine ⟨?_⟩
  rw [q140]
  exact ⟨wrap_u64_nonneg _, rfl⟩
theorem q144 (v : Int) (K : Value → Prop) : evFnP Tryz.prog (fun _ _ => none) 144 [.int .i64 v] K = (ifB (decide (v ≥ 1)) (K (.bool (decide (v ≤ 12)))) (K (.bool false))) := by kernel_rfl
theorem p144 (v : Int) : Bx (evFnP Tryz.prog (fun _ _ => none) 144 [.int .i64 v] (fun r => r = .bool (goIsVar v))) := by
  refine ⟨?_⟩
  rw [q144]
  simp only [ifB, goIsVar]
  by_cases h1 : 1 ≤ v <;> simp [h1]
theorem q154 (x : Int) (K : Value → Prop) : evFnP Tryz.prog (fun _ _ => none) 154 [.int .u16 x] K = (ifB (x != 0) (K (.bool ((bAnd .u16 x (IntKind.wrap .u16 (x - 1))) == 0))) (K (.bool false))) := by kernel_rfl
theorem p154 (x : Int) : Bx (evFnP Tryz.prog (fun _ _ => none) 154 [.int .u16 x] (fun r => r = .bool (goOne x))) := by
  refine ⟨?_⟩
  rw [q154]
  simp only [ifB, goOne]
  repeat' split
  all_goals simp_all [IntKind.wrap, IntKind.signed, IntKind.bits]
  all_goals omega
def varT : PureT := fun f vs => match f, vs with
  | 67, [.int .i64 l] => some (.int .i64 (goVar l))
  | _, _ => none
theorem varOk : PureOk Tryz.prog varT := by
  intro f vs v h w
  unfold varT at h
  split at h
  · rename_i x0
    simp at h; subst h
    refine ⟨Tryz.call67 _ w, fun R hR => ?_⟩
    have h1 := p67 x0
    exact evFnP_sound noPure h1 w R (fun v hv => by rw [hv]; exact hR)
  · cases h
theorem q124 (l mask : Int) (K : Value → Prop) : evFnP Tryz.prog varT 124 [.int .i64 l, .int .i64 mask] K = (0 ≤ (IntKind.wrap .u64 (IntKind.wrap .i64 ((goVar l) - 1))) ∧ K (.bool (((bAnd .i64 (shrV .i64 mask (IntKind.wrap .u64 (IntKind.wrap .i64 ((goVar l) - 1)))) 1) == 1) == (decide (l > 0))))) := by kernel_rfl
theorem p124 (l mask : Int) : Bx (evFnP Tryz.prog varT 124 [.int .i64 l, .int .i64 mask] (fun r => r = .bool (goTrue l mask))) := by
  refine ⟨?_⟩
  rw [q124]
  exact ⟨wrap_u64_nonneg _, rfl⟩
def pureF (f : FuncId) : Bool := [67, 47, 48, 66, 91, 97, 98, 116, 118, 128, 137, 140, 144, 154, 124].contains f
def pureT : PureT := fun f vs => match f, vs with
  | 67, [.int .i64 l] => some (.int .i64 (goVar l))
  | 47, [.int .i64 i] => some (.int .i64 (goInterval i))
  | 48, [.int .i64 s] => some (.int .u64 (goSlotBit s))
  | 66, [.int .i64 l] => some (.bool (goGoodLit l))
  | 91, [.int .u8 c] => some (.int .i64 (goClass c))
  | 97, [.int .i64 id] => some (.int .u64 (goBit id))
  | 98, [.int .u64 set, .int .i64 id] => some (.bool (goHas set id))
  | 116, [.int .i64 x] => some (.int .i64 (goWidth x))
  | 118, [.int .i64 v] => some (.int .u16 (goBitOf v))
  | 128, [.int .u8 c] => some (.bool (goSpace c))
  | 137, [.int .i64 l] => some (.int .i64 (goCode l))
  | 140, [.int .i64 v] => some (.int .u16 (goBit16 v))
  | 144, [.int .i64 v] => some (.bool (goIsVar v))
  | 154, [.int .u16 x] => some (.bool (goOne x))
  | 124, [.int .i64 l, .int .i64 mask] => some (.bool (goTrue l mask))
  | _, _ => none
theorem pureOk : PureOk Tryz.prog pureT := by
  intro f vs v h w
  unfold pureT at h
  split at h
  · rename_i x0
    simp at h; subst h
    refine ⟨Tryz.call67 _ w, fun R hR => ?_⟩
    have h1 := p67 x0
    exact evFnP_sound noPure h1 w R (fun v hv => by rw [hv]; exact hR)
  · rename_i x0
    simp at h; subst h
    refine ⟨Tryz.call47 _ w, fun R hR => ?_⟩
    have h1 := p47 x0
    exact evFnP_sound noPure h1 w R (fun v hv => by rw [hv]; exact hR)
  · rename_i x0
    simp at h; subst h
    refine ⟨Tryz.call48 _ w, fun R hR => ?_⟩
    have h1 := p48 x0
    exact evFnP_sound noPure h1 w R (fun v hv => by rw [hv]; exact hR)
  · rename_i x0
    simp at h; subst h
    refine ⟨Tryz.call66 _ w, fun R hR => ?_⟩
    have h1 := p66 x0
    exact evFnP_sound noPure h1 w R (fun v hv => by rw [hv]; exact hR)
  · rename_i x0
    simp at h; subst h
    refine ⟨Tryz.call91 _ w, fun R hR => ?_⟩
    have h1 := p91 x0
    exact evFnP_sound noPure h1 w R (fun v hv => by rw [hv]; exact hR)
  · rename_i x0
    simp at h; subst h
    refine ⟨Tryz.call97 _ w, fun R hR => ?_⟩
    have h1 := p97 x0
    exact evFnP_sound noPure h1 w R (fun v hv => by rw [hv]; exact hR)
  · rename_i x0 x1
    simp at h; subst h
    refine ⟨Tryz.call98 _ w, fun R hR => ?_⟩
    have h1 := p98 x0 x1
    exact evFnP_sound noPure h1 w R (fun v hv => by rw [hv]; exact hR)
  · rename_i x0
    simp at h; subst h
    refine ⟨Tryz.call116 _ w, fun R hR => ?_⟩
    have h1 := p116 x0
    exact evFnP_sound noPure h1 w R (fun v hv => by rw [hv]; exact hR)
  · rename_i x0
    simp at h; subst h
    refine ⟨Tryz.call118 _ w, fun R hR => ?_⟩
    have h1 := p118 x0
    exact evFnP_sound noPure h1 w R (fun v hv => by rw [hv]; exact hR)
  · rename_i x0
    simp at h; subst h
    refine ⟨Tryz.call128 _ w, fun R hR => ?_⟩
    have h1 := p128 x0
    exact evFnP_sound noPure h1 w R (fun v hv => by rw [hv]; exact hR)
  · rename_i x0
    simp at h; subst h
    refine ⟨Tryz.call137 _ w, fun R hR => ?_⟩
    have h1 := p137 x0
    exact evFnP_sound noPure h1 w R (fun v hv => by rw [hv]; exact hR)
  · rename_i x0
    simp at h; subst h
    refine ⟨Tryz.call140 _ w, fun R hR => ?_⟩
    have h1 := p140 x0
    exact evFnP_sound noPure h1 w R (fun v hv => by rw [hv]; exact hR)
  · rename_i x0
    simp at h; subst h
    refine ⟨Tryz.call144 _ w, fun R hR => ?_⟩
    have h1 := p144 x0
    exact evFnP_sound noPure h1 w R (fun v hv => by rw [hv]; exact hR)
  · rename_i x0
    simp at h; subst h
    refine ⟨Tryz.call154 _ w, fun R hR => ?_⟩
    have h1 := p154 x0
    exact evFnP_sound noPure h1 w R (fun v hv => by rw [hv]; exact hR)
  · rename_i x0 x1
    simp at h; subst h
    refine ⟨Tryz.call124 _ w, fun R hR => ?_⟩
    have h1 := p124 x0 x1
    exact evFnP_sound varOk h1 w R (fun v hv => by rw [hv]; exact hR)
  · cases h
end Go.Proofs.Qxb6500974aGreat
