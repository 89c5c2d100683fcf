import Derived.Tactics
import Derived.Orders
import Derived.KernelRfl
set_option linter.all false
namespace Go.Eng
theorem _root_.Or.orMap {a b c d : Prop} (h : a ∨ b) (f : a → c) (g : b → d) : c ∨ d := by
  cases h with
  | inl h => exact .inl (f h)
  | inr h => exact .inr (g h)
theorem _root_.List.Pairwise.orMap {α : Type} {R S : α → α → Prop} {l : List α} (h : l.Pairwise R) (f : ∀ {a b}, R a b → S a b) : l.Pairwise S := by
  induction h with
  | nil => exact .nil
  | cons h1 _ ih => exact .cons (fun b hb => f (h1 b hb)) ih

structure Blk where
  wr : Bool
  cell : Nat → Option Value

structure Mem where
  blk : Nat → Option Blk
  top : Nat

def Blk.upd (f : Blk) (o : Nat) (v : Value) : Blk := { wr := f.wr, cell := fun i => if i = o then some v else f.cell i }
def Blk.ofList (l : List Value) : Blk := { wr := true, cell := fun i => l[i]? }
def Mem.setB (m : Mem) (b : Nat) (f : Blk) : Mem := { blk := fun i => if i = b then some f else m.blk i, top := m.top }
def Mem.new (m : Mem) (b : Nat) (f : Blk) : Mem := { blk := fun i => if i = b then some f else m.blk i, top := b + 1 }
def Mem.cell (m : Mem) (b o : Nat) : Option Value := (m.blk b).bind (·.cell o)

def oneC : Value → Bool
  | .agg _ => false
  | .tuple _ => false
  | _ => true
abbrev ptr (b o : Nat) : Value := .pointer (some ⟨b, o, none⟩)

def ldInt (k : IntKind) (m : Mem) (b o : Nat) (K : Int → Prop) : Prop := ∃ n, m.cell b o = some (.int k n) ∧ K n
def ldBool (m : Mem) (b o : Nat) (K : Bool → Prop) : Prop := ∃ n, m.cell b o = some (.bool n) ∧ K n
def ldStr (m : Mem) (b o : Nat) (K : ByteArray → Prop) : Prop := ∃ n, m.cell b o = some (.string n) ∧ K n
def ldPtr (m : Mem) (b o : Nat) (K : Option Addr → Prop) : Prop := ∃ n, m.cell b o = some (.pointer n) ∧ K n
def ldSl (m : Mem) (b o : Nat) (K : Option Addr → Nat → Nat → Prop) : Prop := ∃ a l c, m.cell b o = some (.slice a l c) ∧ K a l c
def ldAny (m : Mem) (b o : Nat) (K : Value → Prop) : Prop := ∃ v, m.cell b o = some v ∧ K v
def st (m : Mem) (b o : Nat) (v : Value) (K : Mem → Prop) : Prop :=
  ∃ f, m.blk b = some f ∧ f.wr = true ∧ (f.cell o).isSome = true ∧ K (m.setB b (f.upd o v))
def stL (m : Mem) (b o : Nat) : List Value → (Mem → Prop) → Prop
  | [], K => K m
  | v :: vs, K => match oneC v with | true => ∃ f, m.blk b = some f ∧ f.wr = true ∧ (f.cell o).isSome = true ∧ stL (m.setB b (f.upd o v)) b (o + 1) vs K | false => False
def allocB (m : Mem) (f : Blk) (K : Nat → Mem → Prop) : Prop := ∀ b, m.top ≤ b → K b (m.new b f)
def ckP (p : Option Addr) (K : Nat → Nat → Prop) : Prop :=
  match p with
  | some ⟨b, o, none⟩ => K b o
  | _ => False
def ckI (i : Int) (n : Nat) (K : Nat → Prop) : Prop := 0 ≤ i ∧ i < n ∧ K i.toNat
def ckLe (i : Int) (n : Nat) (K : Nat → Prop) : Prop := 0 ≤ i ∧ i ≤ n ∧ K i.toNat
def ckS (s : ByteArray) (i : Int) (K : UInt8 → Prop) : Prop := 0 ≤ i ∧ ∃ x, s[i.toNat]? = some x ∧ K x
def ifB (b : Bool) (A B : Prop) : Prop :=
  match b with
  | true => A
  | false => B
def mulC (j sz : Nat) : Nat := match sz with | 1 => j | n => j * n
def bAnd (k : IntKind) (x y : Int) : Int := k.wrap (BitVec.ofInt k.bits x &&& BitVec.ofInt k.bits y).toNat
def bOr (k : IntKind) (x y : Int) : Int := k.wrap (BitVec.ofInt k.bits x ||| BitVec.ofInt k.bits y).toNat
def bXor (k : IntKind) (x y : Int) : Int := k.wrap (BitVec.ofInt k.bits x ^^^ BitVec.ofInt k.bits y).toNat
def bAndNot (k : IntKind) (x y : Int) : Int := k.wrap (BitVec.ofInt k.bits x &&& ~~~ BitVec.ofInt k.bits y).toNat
def shlV (k : IntKind) (x y : Int) : Int := k.wrap (x * 2 ^ (min y.toNat k.bits))
def shrV (k : IntKind) (x y : Int) : Int := x.fdiv (2 ^ (min y.toNat k.bits))

def slA (a : Option Addr) (l m size : Nat) : Option Addr := if m = l then a else a.map (·.add (l * size))
def zeroCells (P : Program) (t : TypeId) : Option (List Value) := (P.info? t).bind fun i => i.zero.map fun v => v.cells.toList
def zeroBlk (P : Program) (t : TypeId) : Blk := .ofList ((zeroCells P t).getD [])

def rowsOf (z : List Value) (n : Nat) : Nat → Option Value := fun i => if i < n * z.length then z[i % z.length]? else none
def mkSlice (m : Mem) (z : List Value) (bytes : Nat) (l c : Int) (K : Nat → Mem → Prop) : Prop :=
  0 ≤ l ∧ l ≤ c ∧ bytes * c ≤ 2 ^ 48 ∧ c < 2 ^ 63 ∧ allocB m { wr := true, cell := rowsOf z c.toNat } K

def Mem.row (m : Mem) (b o : Nat) : List Value → Prop
  | [] => True
  | v :: vs => m.cell b o = some v ∧ m.row b (o + 1) vs
def rdRow (m : Mem) (a : Option Addr) (n : Nat) (K : List Value → Prop) : Prop :=
  match a with
  | none => n = 0 ∧ K []
  | some ⟨b, o, none⟩ => ∃ vs : List Value, vs.length = n ∧ m.row b o vs ∧ K vs
  | _ => False

def appendC (m : Mem) (size bytes : Nat) (z : List Value) (a : Option Addr) (len cap n : Nat) (new : List Value) (K : Option Addr → Nat → Mem → Prop) : Prop :=
  (len + n ≤ cap → match a with
    | none => K none cap m
    | some ⟨b, o, none⟩ => stL m b (o + len * size) new fun m => K (some ⟨b, o, none⟩) cap m
    | _ => False) ∧
  (cap < len + n → Builtin.nextslicecap (len + n) cap * bytes ≤ 2 ^ 48 ∧ 0 < bytes ∧ rdRow m a (len * size) fun old =>
    ∀ newCap, len + n ≤ newCap → newCap < 2 ^ 63 → allocB m { wr := true, cell := fun i => if i < (old ++ new).length then (old ++ new)[i]? else if i < newCap * size then z[(i - (old ++ new).length) % z.length]? else none }
      fun b m => K (some ⟨b, 0, none⟩) newCap m)
def bytesV (s : ByteArray) : List Value := s.data.toList.map fun x => .int .u8 x.toNat

def copyP (m : Mem) (a : Option Addr) (new : List Value) (K : Mem → Prop) : Prop :=
  match a with
  | none => K m
  | some ⟨b, o, none⟩ => stL m b o new K
  | _ => False

def ldV (d : TypeDesc) (m : Mem) (b o : Nat) (K : Value → Prop) : Prop :=
  match d with
  | .int k => ldInt k m b o fun n => K (.int k n)
  | .bool => ldBool m b o fun n => K (.bool n)
  | .string => ldStr m b o fun n => K (.string n)
  | .pointer _ => ldPtr m b o fun n => K (.pointer n)
  | .slice _ => ldSl m b o fun a l c => K (.slice a l c)
  | _ => ldAny m b o K
def ldL (m : Mem) (b : Nat) : List TypeDesc → Nat → (List Value → Prop) → Prop
  | [], _, K => K []
  | d :: ds, o, K => ldV d m b o fun v => ldL m b ds (o + 1) fun vs => K (v :: vs)
def shD (d : TypeDesc) (K : Value → Prop) : Prop :=
  match d with
  | .int k => ∃ n, K (.int k n)
  | .bool => ∃ n, K (.bool n)
  | .string => ∃ n, K (.string n)
  | .pointer _ => ∃ n, K (.pointer n)
  | .slice _ => ∃ a l c, K (.slice a l c)
  | _ => ∃ v, K v
def shL : List TypeDesc → (List Value → Prop) → Prop
  | [], K => K []
  | d :: ds, K => shD d fun v => shL ds fun vs => K (v :: vs)

def flat (P : Program) : Nat → TypeId → List TypeDesc
  | 0, _ => []
  | n + 1, t => match P.underlying t with
    | some (.struct fs) => fs.toList.flatMap fun f => flat P n f.type
    | some (.array k e) => (List.replicate k (flat P n e)).flatten
    | some d => [d]
    | none => []
def isAggD : TypeDesc → Bool
  | .struct _ => true
  | .array _ _ => true
  | _ => false
def flatOk (P : Program) (t : TypeId) : Bool := (flat P 8 t).length == P.cellsOf t && (P.info? t).isSome
def ldT (P : Program) (t : TypeId) (m : Mem) (b o : Nat) (K : Value → Prop) : Prop :=
  match P.underlying t with
  | some d => match isAggD d with
    | true => match flatOk P t with
      | true => ldL m b (flat P 8 t) o fun vs => K (.agg vs.toArray)
      | false => False
    | false => ldV d m b o K
  | none => False
def shT (P : Program) (t : TypeId) (K : Value → Prop) : Prop :=
  match P.underlying t with
  | some d => match isAggD d with
    | true => shL (flat P 8 t) fun vs => K (.agg vs.toArray)
    | false => shD d K
  | none => False
def shTs (P : Program) : List TypeId → (List Value → Prop) → Prop
  | [], K => K []
  | t :: ts, K => shT P t fun v => shTs P ts fun vs => K (v :: vs)
def mkR : List Value → Value
  | [v] => v
  | vs => .tuple vs.toArray

def unR (P : Program) (f : FuncId) (v : Value) (K : Value → Prop) : Prop :=
  match P.funcs[f]? with
  | some fn => shTs P fn.resultTypes.toList fun vs => v = mkR vs ∧ K (mkR vs)
  | none => False

abbrev Fr := List (Nat × Value)
def get : Fr → Nat → Option Value
  | [], _ => none
  | (j, v) :: r, i => match Nat.beq j i with | true => some v | false => get r i
def evalO (fr : Fr) : Operand → Option Value
  | .tmp t => get fr t
  | .const v => some v
  | .global g => some (ptr g 0)
  | .func f => some (.func (.func f) #[] #[])
def keepF (L : List Nat) (fr : Fr) : Fr :=
  match L with
  | [] => []
  | i :: r => match get fr i with | some v => (i, v) :: keepF r fr | none => keepF r fr

def withV (v : Option Value) (K : Value → Prop) : Prop := match v with | some v => K v | none => False
def partV (P : Program) (t : TypeId) (cs : List Value) (off : Nat) (K : Value → Prop) : Prop :=
  match P.underlying t, (P.info? t).isSome with
  | some d, true => match isAggD d with
    | true => K (.agg ((cs.drop off).take (P.cellsOf t)).toArray)
    | false => withV cs[off]? K
  | _, _ => False

def eqL (P : Program) : List Field → List Value → List Value → Option Bool
  | [], [], [] => some true
  | f :: fs, x :: xs, y :: ys => match P.underlying f.type, x, y with
    | some (.int _), .int k a, .int k' b => match decide (k = k') with | true => (eqL P fs xs ys).map (a == b && ·) | false => none
    | some .bool, .bool a, .bool b => (eqL P fs xs ys).map (a == b && ·)
    | some .string, .string a, .string b => (eqL P fs xs ys).map (a == b && ·)
    | _, _, _ => none
  | _, _, _ => none

def plainFs (fs : List Field) : Bool := fs.zipIdx.all fun (f, i) => f.name != "_" && f.offset == i
def eqV (P : Program) (t : TypeId) (x y : Value) (K : Bool → Prop) : Prop :=
  match P.underlying t, x, y with
  | some .bool, .bool a, .bool b => K (a == b)
  | some (.pointer _), .pointer p, .pointer none => K p.isNone
  | some (.slice _), .slice a _ _, .slice none _ _ => K a.isNone
  | some (.struct fs), .agg xs, .agg ys => match plainFs fs.toList && !P.stoodInHeld t && !P.eqGuardType P.depth t with
    | true => match eqL P fs.toList xs.toList ys.toList with | some b => K b | none => False
    | false => False
  | _, _, _ => False
def intOp (op : BinOp) (k : IntKind) (a b : Int) (K : Value → Prop) : Prop :=
  match op with
  | .add => K (.int k (k.wrap (a + b)))
  | .sub => K (.int k (k.wrap (a - b)))
  | .mul => K (.int k (k.wrap (a * b)))
  | .quo => b ≠ 0 ∧ K (.int k (k.wrap (a.tdiv b)))
  | .rem => b ≠ 0 ∧ K (.int k (a.tmod b))
  | .and => K (.int k (bAnd k a b))
  | .or => K (.int k (bOr k a b))
  | .xor => K (.int k (bXor k a b))
  | .andNot => K (.int k (bAndNot k a b))
  | .eql => K (.bool (a == b))
  | .neq => K (.bool (a != b))
  | .lss => K (.bool (decide (a < b)))
  | .leq => K (.bool (decide (a ≤ b)))
  | .gtr => K (.bool (decide (a > b)))
  | .geq => K (.bool (decide (a ≥ b)))
  | _ => False
def binV (P : Program) (op : BinOp) (t : TypeId) (x y : Value) (K : Value → Prop) : Prop :=
  match x, y with
  | .int k a, .int k' b => match op with
    | .shl => 0 ≤ b ∧ K (.int k (shlV k a b))
    | .shr => 0 ≤ b ∧ K (.int k (shrV k a b))
    | op => match decide (k = k') with | true => intOp op k a b K | false => False
  | .string a, .string b => match op with
    | .add => ((a.size + b.size : Nat) : Int) ≤ IntKind.i64.max ∧ K (.string (a ++ b))
    | .eql => K (.bool (a.toList == b.toList))
    | .neq => K (.bool !(a.toList == b.toList))
    | _ => False
  | x, y => match op with
    | .eql => eqV P t x y fun b => K (.bool b)
    | .neq => eqV P t x y fun b => K (.bool !b)
    | _ => False
def unV (op : UnOp) (x : Value) (K : Value → Prop) : Prop :=
  match op, x with
  | .neg, .int k n => K (.int k (k.wrap (0 - n)))
  | .not, .bool b => K (.bool !b)
  | .xor, .int k n => K (.int k (bXor k (if k.signed then -1 else k.max) n))
  | _, _ => False
def optI (x : Option (Option Value)) (d bound : Nat) (K : Nat → Prop) : Prop :=
  match x with
  | none => K d
  | some (some (.int _ i)) => ckLe i bound K
  | _ => False
def sliceV (P : Program) (t : TypeId) (x : Value) (lo hi mx : Option (Option Value)) (K : Value → Prop) : Prop :=
  match P.underlying t, x with
  | some .string, .string s => match mx with
    | none => optI hi s.size s.size fun h => optI lo 0 h fun l => K (.string (s.extract l h))
    | some _ => False
  | some (.slice e), .slice a len cap => match (P.info? e).isSome with
    | true => optI mx cap cap fun m => match mx, hi with
      | some _, none => False
      | _, _ => optI hi len m fun h => optI lo 0 h fun l => K (.slice (slA a l m (P.cellsOf e)) (h - l) (m - l))
    | false => False
  | some (.array n e), .pointer (some ⟨b, o, none⟩) => match (P.info? e).isSome with
    | true => optI mx n n fun m => match mx, hi with
      | some _, none => False
      | _, _ => optI hi n m fun h => optI lo 0 h fun l => K (.slice (slA (some ⟨b, o, none⟩) l m (P.cellsOf e)) (h - l) (m - l))
    | false => False
  | _, _ => False
def fillL (place : Nat → Option (Nat × Nat)) (cells : List Value) : List (Nat × Value) → Option (List Value)
  | [] => some cells
  | (i, v) :: rest => match place i with
    | none => none
    | some (off, size) => match v.cells.toList.length == size && Nat.ble (off + size) cells.length with
      | true => fillL place (cells.take off ++ v.cells.toList ++ cells.drop (off + size)) rest
      | false => none
def parts (ρ : Operand → Option Value) : List (Nat × Operand) → Option (List (Nat × Value))
  | [] => some []
  | (i, x) :: r => match ρ x, parts ρ r with
    | some v, some vs => some ((i, v) :: vs)
    | _, _ => none
def placesOf (P : Program) (d : TypeDesc) : Option (Nat → Option (Nat × Nat)) :=
  match d with
  | .struct fs => match fs.toList.all fun f => (P.info? f.type).isSome with | true => some fun i => (fs.toList[i]?).map fun f => (f.offset, P.cellsOf f.type) | false => none
  | .array _ e => match (P.info? e).isSome with | true => some fun i => some (i * P.cellsOf e, P.cellsOf e) | false => none
  | _ => none
def buildV (P : Program) (t : TypeId) (ps : Option (List (Nat × Value))) (K : Value → Prop) : Prop :=
  match (P.underlying t).bind (placesOf P), zeroCells P t, ps with
  | some pl, some z, some ps => match fillL pl z ps with
    | some cs => K (.agg cs.toArray)
    | none => False
  | _, _, _ => False
def vals (ρ : Operand → Option Value) : List Operand → Option (List Value)
  | [] => some []
  | x :: r => match ρ x, vals ρ r with
    | some v, some vs => some (v :: vs)
    | _, _ => none
def lenV (P : Program) (t : TypeId) (x : Value) (K : Value → Prop) : Prop :=
  match P.underlying t, x with
  | some .string, .string s => K (.int .i64 s.size)
  | some (.slice _), .slice _ n _ => K (.int .i64 n)
  | some (.array n _), _ => K (.int .i64 n)
  | _, _ => False
def capV (P : Program) (t : TypeId) (x : Value) (K : Value → Prop) : Prop :=
  match P.underlying t, x with
  | some (.slice _), .slice _ _ n => K (.int .i64 n)
  | _, _ => False
def convV (P : Program) (s d : TypeId) (x : Value) (K : Value → Prop) : Prop :=
  match P.underlying s, P.underlying d, x with
  | some _, some (.int k), .int _ n => K (.int k (k.wrap n))
  | some .string, some .string, .string a => K (.string a)
  | _, _, _ => False

abbrev PureT := FuncId → List Value → Option Value

def evPure (P : Program) (T : PureT) (ρ : Operand → Option Value) (o : Op) (K : Value → Prop) : Prop :=
  match o with
  | .move x => withV (ρ x) K
  | .assign x => withV (ρ x) K
  | .pick c a b => match ρ c with | some (.bool t) => ifB t (withV (ρ a) K) (withV (ρ b) K) | _ => False
  | .nilCheck x => match ρ x with | some (.pointer p) => ckP p fun b o => K (ptr b o) | _ => False
  | .fieldAddr s x f => match P.underlying s, ρ x with
    | some (.struct fs), some (.pointer p) => ckP p fun b o => match fs.toList[f]? with
      | some fd => match Nat.beq (P.cellsOf fd.type) 0 with | true => False | false => K (ptr b (o + fd.offset))
      | none => False
    | _, _ => False
  | .field t x f => match P.underlying t, ρ x with
    | some (.struct fs), some (.agg cs) => match fs.toList[f]? with
      | some fd => partV P fd.type cs.toList fd.offset K
      | none => False
    | _, _ => False
  | .indexAddr t x ix => match P.underlying t, ρ x, ρ ix with
    | some (.array n e), some (.pointer p), some (.int _ i) => ckP p fun b o => match (P.info? e).isSome with
      | true => ckI i n fun j => K (ptr b (o + mulC j (P.cellsOf e)))
      | false => False
    | some (.slice e), some (.slice p n _), some (.int _ i) => ckP p fun b o => match (P.info? e).isSome with
      | true => ckI i n fun j => K (ptr b (o + mulC j (P.cellsOf e)))
      | false => False
    | _, _, _ => False
  | .index t x ix => match P.underlying t, ρ x, ρ ix with
    | some .string, some (.string s), some (.int _ i) => ckS s i fun x => K (.int .u8 x.toNat)
    | _, _, _ => False
  | .binOp op t x y _ => match ρ x, ρ y with | some x, some y => binV P op t x y K | _, _ => False
  | .unOp op _ x => match ρ x with | some x => unV op x K | _ => False
  | .convert s d x => match ρ x with | some x => convV P s d x K | _ => False
  | .extract t i => match ρ t with | some (.tuple vs) => withV vs.toList[i]? K | _ => False
  | .slice t x lo hi mx => match ρ x with | some x => sliceV P t x (lo.map ρ) (hi.map ρ) (mx.map ρ) K | _ => False
  | .build t ps => buildV P t (parts ρ ps.toList) K
  | .call { callee := .builtin .len, args, argTypes } => match args.toList, argTypes.toList with | [x], [t] => (match ρ x with | some x => lenV P t x K | none => False) | _, _ => False
  | .call { callee := .builtin .cap, args, argTypes } => match args.toList, argTypes.toList with | [x], [t] => (match ρ x with | some x => capV P t x K | none => False) | _, _ => False
  | .call { callee := .value (.func f), args, .. } => match vals ρ args.toList with | some vs => withV (T f vs) K | none => False
  | _ => False

def evRead (P : Program) (ρ : Operand → Option Value) (o : Op) (m : Mem) (K : Value → Prop) : Prop :=
  match o with
  | .load t x => match ρ x with | some (.pointer p) => ckP p fun b o => ldT P t m b o K | _ => False
  | _ => False
def rdBytes (m : Mem) (a : Option Addr) (n : Nat) (K : ByteArray → Prop) : Prop :=
  match a with
  | none => K .empty
  | some ⟨b, o, none⟩ => ∃ s : ByteArray, s.size = n ∧ m.row b o (bytesV s) ∧ K s
  | _ => False
abbrev CallT := FuncId → List Value → (Value → Mem → Prop) → Mem → Prop
def appendE (P : Program) (t tx : TypeId) (x y : Value) (m : Mem) (K : Value → Mem → Prop) : Prop :=
  match P.underlying t, x with
  | some (.slice e), .slice a len cap => match zeroCells P e, P.underlying tx, y with
    | some z, some (.slice _), .slice a' n _ => match Nat.beq z.length (P.cellsOf e) with
      | true => rdRow m a' (n * P.cellsOf e) fun new => appendC m (P.cellsOf e) (P.bytesOf e) z a len cap n new fun a c m => K (.slice a (len + n) c) m
      | false => False
    | some z, some .string, .string s => match Nat.beq z.length (P.cellsOf e) && Nat.beq (P.cellsOf e) 1 with
      | true => appendC m (P.cellsOf e) (P.bytesOf e) z a len cap s.size (bytesV s) fun a c m => K (.slice a (len + s.size) c) m
      | false => False
    | _, _, _ => False
  | _, _ => False

def evEff (P : Program) (C : CallT) (ρ : Operand → Option Value) (o : Op) (m : Mem) (K : Value → Mem → Prop) : Prop :=
  match o with
  | .alloc t => match zeroCells P t with | some _ => allocB m (zeroBlk P t) fun b m => K (ptr b 0) m | none => False
  | .box _ x => match ρ x with | some v => allocB m (.ofList v.cells.toList) fun b m => K (ptr b 0) m | none => False
  | .buildSlice t n ps => match P.underlying t, parts ρ ps.toList with
    | some (.slice e), some ps => match zeroCells P e with
      | some z => match Nat.beq z.length (P.cellsOf e) && Nat.ble (n * P.cellsOf e) (2 ^ 24) && !(Nat.beq (n * P.cellsOf e) 0) with
        | true => match fillL (fun i => some (i * P.cellsOf e, P.cellsOf e)) (List.replicate n z).flatten ps with
          | some cs => allocB m (.ofList cs) fun b m => K (.slice (some ⟨b, 0, none⟩) n n) m
          | none => False
        | false => False
      | none => False
    | _, _ => False
  | .store t a v => match ρ a, ρ v with
    | some (.pointer p), some v => ckP p fun b o => match Nat.beq v.cells.toList.length (P.cellsOf t) && (P.info? t).isSome with
      | true => match v with
        | .agg cs => stL m b o cs.toList fun m => K undef m
        | v => match oneC v with | true => st m b o v fun m => K undef m | false => False
      | false => False
    | _, _ => False
  | .makeSlice t l c => match P.underlying t, ρ l, ρ c with
    | some (.slice e), some (.int _ l), some (.int _ c) => match zeroCells P e with
      | some z => match Nat.beq z.length (P.cellsOf e) && !(Nat.beq (P.cellsOf e) 0) with
        | true => mkSlice m z (P.bytesOf e) l c fun b m => K (.slice (some ⟨b, 0, none⟩) l.toNat c.toNat) m
        | false => False
      | none => False
    | _, _, _ => False
  | .convert s d x => match P.underlying s, P.underlying d, ρ x with
    | some (.slice e), some .string, some (.slice a n _) => match P.underlying e with
      | some (.int .u8) => rdBytes m a n fun s => K (.string s) m
      | _ => False
    | some .string, some (.slice e), some (.string s) => match P.underlying e with
      | some (.int .u8) => ∀ cap, s.size ≤ cap → allocB m { wr := true, cell := fun i => if i < s.size then (bytesV s)[i]? else if i < cap then some (.int .u8 0) else none } fun b m => K (.slice (some ⟨b, 0, none⟩) s.size cap) m
      | _ => False
    | _, _, _ => False
  | .call { callee := .builtin .append, args, argTypes } => match args.toList, argTypes.toList with
    | [x, y], t :: tx :: _ => (match ρ x, ρ y with | some x, some y => appendE P t tx x y m K | _, _ => False)
    | _, _ => False
  | .call { callee := .builtin .copy, args, argTypes } => match args.toList, argTypes.toList with
    | [x, y], t :: _ => (match P.underlying t, ρ x, ρ y with
      | some (.slice e), some (.slice a dl _), some (.slice a' sl _) => match (P.info? e).isSome with
        | true => rdRow m a' (Nat.min sl dl * P.cellsOf e) fun new => copyP m a new fun m => K (.int .i64 (Nat.min sl dl : Nat)) m
        | false => False
      | some (.slice e), some (.slice a dl _), some (.string s) => match P.underlying e with
        | some (.int .u8) => match Nat.beq (P.cellsOf e) 1 && (P.info? e).isSome with
          | true => copyP m a ((bytesV s).take (Nat.min s.size dl)) fun m => K (.int .i64 (Nat.min s.size dl : Nat)) m
          | false => False
        | _ => False
      | _, _, _ => False)
    | _, _ => False
  | .call { callee := .value (.func f), args, .. } => match vals ρ args.toList with
    | some vs => C f vs (fun v m => unR P f v fun v => K v m) m
    | none => False
  | _ => False

def cls (P : Program) (T : FuncId → Bool) (o : Op) : Nat :=
  match o with
  | .move _ | .assign _ | .pick .. | .nilCheck _ | .fieldAddr .. | .field .. | .indexAddr .. | .index .. | .binOp .. | .unOp .. | .extract .. | .slice .. | .build .. => 0
  | .convert s d _ => match P.underlying s, P.underlying d with
    | some (.slice _), _ => 2
    | _, some (.slice _) => 2
    | _, _ => 0
  | .call { callee := .builtin .len, .. } => 0
  | .call { callee := .builtin .cap, .. } => 0
  | .call { callee := .value (.func f), .. } => match T f with | true => 0 | false => 2
  | .load .. => 1
  | .alloc _ | .box .. | .buildSlice .. => 3
  | _ => 2

structure Cfg where
  P : Program
  pf : FuncId → Bool
  pt : PureT
  C : CallT
  n : Nat
  keep : List (Nat × List Nat)

def evOp (c : Cfg) (ρ : Operand → Option Value) (o : Op) (m : Mem) (K : Value → Mem → Prop) : Prop :=
  match cls c.P c.pf o with
  | 0 => evPure c.P c.pt ρ o fun v => K v m
  | 1 => evRead c.P ρ o m fun v => K v m
  | _ => evEff c.P c.C ρ o m K
def putF (n : Nat) (dst : Option Tmp) (v : Value) (fr : Fr) (K : Fr → Prop) : Prop :=
  match dst with
  | none => K fr
  | some d => match Nat.blt d n with | true => K ((d, v) :: fr) | false => False

def evStepE (c : Cfg) (ops : List Oper) (i : Nat) (next : Fr → Mem → Prop) (fr : Fr) (m : Mem) : Prop :=
  match ops[i]? with
  | none => False
  | some o => match o.guard with
    | none => evOp c (evalO fr) o.op m fun v m => putF c.n o.dst v fr fun fr => next fr m
    | some (j, want) => match (ops[j]?).bind (·.dst) with
      | none => False
      | some g => match get fr g with
        | some (.bool b) => ifB b
            (match want with
             | true => evOp c (evalO ((g, .bool true) :: fr)) o.op m fun v m => putF c.n o.dst v ((g, .bool true) :: fr) fun fr => next fr m
             | false => putF c.n o.dst undef ((g, .bool true) :: fr) fun fr => next fr m)
            (match want with
             | false => evOp c (evalO ((g, .bool false) :: fr)) o.op m fun v m => putF c.n o.dst v ((g, .bool false) :: fr) fun fr => next fr m
             | true => putF c.n o.dst undef ((g, .bool false) :: fr) fun fr => next fr m)
        | some (.tuple vs) => match vs.toList with
          | [] => putF c.n o.dst undef fr fun fr => next fr m
          | _ => False
        | _ => False
def evOps (c : Cfg) (ops : List Oper) (K : Fr → Mem → Prop) : List Nat → Fr → Mem → Prop
  | [] => K
  | i :: rest => evStepE c ops i (evOps c ops K rest)

def readyL (ops : List Oper) (listed : List Nat) : List Nat :=
  (List.range ops.length).filter fun i => !listed.contains i && match ops[i]? with
    | some o => o.after.toList.all fun e => !Region.binds .any e || listed.contains e.on
    | none => false
def firstOf (p : Nat → Bool) : List Nat → Option Nat
  | [] => none
  | i :: r => match p i with | true => some i | false => firstOf p r
def clsAt (c : Cfg) (ops : List Oper) (i : Nat) : Nat := match ops[i]? with | some o => cls c.P c.pf o.op | none => 2
def depF (ops : List Oper) : Nat → Nat → Nat → Bool
  | 0, _, _ => false
  | n + 1, i, j => match ops[j]? with
    | some o => o.after.toList.any fun e => Region.binds .any e && (Nat.beq e.on i || depF ops n i e.on)
    | none => false

def canFirst (c : Cfg) (ops : List Oper) (listed : List Nat) (i : Nat) : Bool :=
  (match clsAt c ops i with | 0 => true | 1 => true | _ => false) &&
  (List.range ops.length).all fun j => Nat.beq j i || listed.contains j || depF ops ops.length i j || depF ops ops.length j i ||
    (match ops[i]?, ops[j]? with
     | some oi, some oj => oi.apart ops.toArray oj &&
        (match clsAt c ops i, clsAt c ops j with
         | 0, _ => true
         | _, 0 => true
         | _, 1 => true
         | _, 3 => true
         | _, _ => false)
     | _, _ => false)
def allOf (f : Nat → Prop) : List Nat → Prop
  | [] => True
  | i :: r => f i ∧ allOf f r

def evDraw (c : Cfg) (ops : List Oper) (K : Fr → Mem → Prop) : Nat → List Nat → Fr → Mem → Prop
  | 0, listed => match readyL ops listed with | [] => K | _ => fun _ _ => False
  | n + 1, listed => match readyL ops listed with
    | [] => K
    | i :: r => match firstOf (canFirst c ops listed) (i :: r) with
      | some i => evStepE c ops i (evDraw c ops K n (i :: listed))
      | none => match r with
        | [] => evStepE c ops i (evDraw c ops K n (i :: listed))
        | r => fun fr m => allOf (fun i => evStepE c ops i (evDraw c ops K n (i :: listed)) fr m) (i :: r)

def andThenE (k : Fr → Mem → Prop) (K : Exit → Fr → Mem → Prop) : Exit → Fr → Mem → Prop
  | .normal => k
  | e => K e
def inBlockE (id : Nat) (K : Exit → Fr → Mem → Prop) : Exit → Fr → Mem → Prop
  | .exit j => match Nat.beq j id with | true => K .normal | false => K (.exit j)
  | e => K e

def trimK (L : List Nat) (K : Exit → Fr → Mem → Prop) : Exit → Fr → Mem → Prop := fun e fr m => K e (keepF L fr) m

def loopE (L : List Nat) (body : (Exit → Fr → Mem → Prop) → Fr → Mem → Prop) (K : Exit → Fr → Mem → Prop) (fr : Fr) (m : Mem) : Prop :=
  ∃ I : Nat → Fr → Mem → Prop, (∃ k, I k fr m) ∧
    ∀ k fr m, I k fr m → body (trimK L (andThenE (fun fr' m' => ∃ k', k' < k ∧ I k' fr' m') K)) fr m

def firstReg : Code → Nat
  | .region id _ _ => id
  | .seq a _ => firstReg a
  | .block _ a => firstReg a
  | .loop a => firstReg a
  | .cond _ a _ => firstReg a
  | _ => 0
def keepOf : List (Nat × List Nat) → Nat → List Nat
  | [], _ => []
  | (j, l) :: r, i => match Nat.beq j i with | true => l | false => keepOf r i
def evCode (c : Cfg) : Code → (Exit → Fr → Mem → Prop) → Fr → Mem → Prop
  | .skip, K, fr, m => K .normal fr m
  | .seq a b, K, fr, m => evCode c a (andThenE (evCode c b K) K) fr m
  | .cond x a b, K, fr, m => match evalO fr x with
    | some (.bool t) => ifB t (evCode c a K fr m) (evCode c b K fr m)
    | _ => False
  | .block id a, K, fr, m => evCode c a (inBlockE id K) fr m
  | .loop a, K, fr, m => loopE (keepOf c.keep (firstReg a)) (evCode c a) K (keepF (keepOf c.keep (firstReg a)) fr) m
  | .exit id, K, fr, m => K (.exit id) fr m
  | .ret, K, fr, m => K .ret fr m
  | .region _ ops draw, K, fr, m => match draw with
    | false => evOps c ops.toList (K .normal) (List.range ops.toList.length) fr m
    | true => match Region.noSelect ops with
      | true => evDraw c ops.toList (K .normal) ops.toList.length [] fr m
      | false => False
  | _, _, _, _ => False

def codeAt : Code → List Nat → Code
  | c, [] => c
  | .seq a _, 0 :: p => codeAt a p
  | .seq _ b, _ :: p => codeAt b p
  | .cond _ a _, 0 :: p => codeAt a p
  | .cond _ _ b, _ :: p => codeAt b p
  | .block _ a, _ :: p => codeAt a p
  | .loop a, _ :: p => codeAt a p
  | c, _ => c

def kAt (c : Cfg) : Code → List Nat → (Exit → Fr → Mem → Prop) → Exit → Fr → Mem → Prop
  | _, [], K => K
  | .seq a b, 0 :: p, K => kAt c a p (andThenE (evCode c b K) K)
  | .seq _ b, _ :: p, K => kAt c b p K
  | .cond _ a _, 0 :: p, K => kAt c a p K
  | .cond _ _ b, _ :: p, K => kAt c b p K
  | .block id a, _ :: p, K => kAt c a p (inBlockE id K)
  | _, _, K => K

def resV (P : Program) (fr : Fr) (m : Mem) : List ResultVar → (List Value → Prop) → Prop
  | [], K => K []
  | .tmp t :: r, K => withV (get fr t) fun v => resV P fr m r fun vs => K (v :: vs)
  | .cell a t :: r, K => match get fr a with
    | some (.pointer p) => ckP p fun b o => ldT P t m b o fun v => resV P fr m r fun vs => K (v :: vs)
    | _ => False
def startF : Nat → List Value → Fr
  | _, [] => []
  | i, v :: vs => (i, v) :: startF (i + 1) vs

def cfgOf (P : Program) (pf : FuncId → Bool) (pt : PureT) (C : CallT) (keep : List (Nat × List Nat)) (f : FuncId) : Cfg :=
  { P := P, pf := pf, pt := pt, C := C, n := match P.funcs[f]? with | some fn => fn.ntmps | none => 0, keep := keep }
def bodyOf (P : Program) (f : FuncId) : Code := match P.funcs[f]? with | some fn => fn.body.getD .skip | none => .skip
def endK (P : Program) (f : FuncId) (K : Value → Mem → Prop) : Exit → Fr → Mem → Prop := fun e fr m =>
  match P.funcs[f]? with
  | some fn => match e with
    | .normal => resV P fr m fn.results.toList fun vs => K (mkR vs) m
    | .ret => resV P fr m fn.results.toList fun vs => K (mkR vs) m
    | _ => False
  | none => False
def evFn (P : Program) (pf : FuncId → Bool) (pt : PureT) (C : CallT) (keep : List (Nat × List Nat)) (f : FuncId) (args : List Value) (K : Value → Mem → Prop) (m : Mem) : Prop :=
  match P.funcs[f]? with
  | some fn => match fn.body.isSome && Nat.ble args.length fn.ntmps with
    | true => evCode (cfgOf P pf pt C keep f) (bodyOf P f) (endK P f K) (startF 0 args) m
    | false => False
  | none => False
end Go.Eng
