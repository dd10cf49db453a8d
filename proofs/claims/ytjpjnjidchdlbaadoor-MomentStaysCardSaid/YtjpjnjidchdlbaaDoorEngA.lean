/-
  The abstract states of this claim's walks, and what is computed of them: definitions alone (no condition).
-/
import Derived.RangeFuncLeaves
import Derived.RangeFuncOwn
import Derived.RangeFuncRecord
namespace Go.Proofs.YtjpjnjidchdlbaaDoor
set_option linter.unusedSimpArgs false
set_option linter.unusedVariables false
open Go Go.RowKit

/-! ## Values with names: an address with a spot is the NAME of a tracked block -/
abbrev Ren := Nat → Nat
def cA (r : Ren) (a : Addr) : Addr := match a.spot with | none => a | some _ => ⟨r a.block, a.off, none⟩
def c0 (r : Ren) (v : Value) : Value := match v with
  | .pointer (some a) => .pointer (some (cA r a))
  | .slice (some a) l c => .slice (some (cA r a)) l c
  | .map (some b) => .map (some (r b))
  | v => v
def c1 (r : Ren) (v : Value) : Value := match v with
  | .func f fs cs => .func f (fs.map (c0 r)) (cs.map (c0 r))
  | v => c0 r v
def c2 (r : Ren) (v : Value) : Value := match v with
  | .agg cs => .agg (cs.map (c1 r))
  | v => c1 r v
def c3 (r : Ren) (v : Value) : Value := match v with
  | .tuple vs => .tuple (vs.map (c2 r))
  | v => c2 r v
/-- names put for names -/
def rA (r : Ren) (a : Addr) : Addr := match a.spot with | none => a | some s => ⟨r a.block, a.off, some s⟩
def r0 (r : Ren) (v : Value) : Value := match v with
  | .pointer (some a) => .pointer (some (rA r a))
  | .slice (some a) l c => .slice (some (rA r a)) l c
  | .map (some b) => .map (some (r b))
  | v => v
def r1 (r : Ren) (v : Value) : Value := match v with
  | .func f fs cs => .func f (fs.map (r0 r)) (cs.map (r0 r))
  | v => r0 r v
def r2 (r : Ren) (v : Value) : Value := match v with
  | .agg cs => .agg (cs.map (r1 r))
  | v => r1 r v
def r3 (r : Ren) (v : Value) : Value := match v with
  | .tuple vs => .tuple (vs.map (r2 r))
  | v => r2 r v
/-- names below n -/
def sA (n : Nat) (a : Addr) : Prop := ∀ s, a.spot = some s → a.block < n
def s0 (n : Nat) (v : Value) : Prop := match v with
  | .pointer (some a) => sA n a
  | .slice (some a) _ _ => sA n a
  | .map (some b) => b < n
  | .agg _ => False
  | .tuple _ => False
  | .func _ _ _ => False
  | _ => True
def s1 (n : Nat) (v : Value) : Prop := match v with
  | .func _ fs cs => (∀ x ∈ fs.toList, s0 n x) ∧ ∀ x ∈ cs.toList, s0 n x
  | v => s0 n v
def s2 (n : Nat) (v : Value) : Prop := match v with
  | .agg cs => ∀ x ∈ cs.toList, s1 n x
  | v => s1 n v
def s3 (n : Nat) (v : Value) : Prop := match v with
  | .tuple vs => ∀ x ∈ vs.toList, s2 n x
  | v => s2 n v
/-- a pointer to a tracked block; a slice in one -/
abbrev ptr (b o : Nat) : Value := .pointer (some ⟨b, o, some 0⟩)
abbrev slc (b o l c : Nat) : Value := .slice (some ⟨b, o, some 0⟩) l c

/-! ## Continuation style -/
def nthK {α : Type} (l : List α) : Nat → (α → Prop) → Prop :=
  List.rec (motive := fun _ => Nat → (α → Prop) → Prop) (fun _ _ => False) (fun a _ ih n k => match n with
    | 0 => k a
    | n + 1 => ih n k) l
theorem nthK_n {α : Type} (n : Nat) (k : α → Prop) : nthK [] n k = False := rfl
theorem nthK_z {α : Type} (a : α) (t : List α) (k : α → Prop) : nthK (a :: t) 0 k = k a := rfl
theorem nthK_s {α : Type} (a : α) (t : List α) (n : Nat) (k : α → Prop) : nthK (a :: t) (n + 1) k = nthK t n k := rfl
def takeK {α : Type} (l : List α) (n : Nat) : (List α → Prop) → Prop :=
  Nat.rec (motive := fun _ => List α → (List α → Prop) → Prop) (fun _ k => k []) (fun _ ih l k => match l with
    | [] => False
    | a :: t => ih t fun r => k (a :: r)) n l
theorem takeK_z {α : Type} (l : List α) (k : List α → Prop) : takeK l 0 k = k [] := rfl
theorem takeK_n {α : Type} (n : Nat) (k : List α → Prop) : takeK [] (n + 1) k = False := rfl
theorem takeK_s {α : Type} (a : α) (t : List α) (n : Nat) (k : List α → Prop) : takeK (a :: t) (n + 1) k = takeK t n fun r => k (a :: r) := rfl
def dropK {α : Type} (l : List α) (n : Nat) : (List α → Prop) → Prop :=
  Nat.rec (motive := fun _ => List α → (List α → Prop) → Prop) (fun l k => k l) (fun _ ih l k => match l with
    | [] => False
    | _ :: t => ih t k) n l
theorem dropK_z {α : Type} (l : List α) (k : List α → Prop) : dropK l 0 k = k l := rfl
theorem dropK_n {α : Type} (n : Nat) (k : List α → Prop) : dropK [] (n + 1) k = False := rfl
theorem dropK_s {α : Type} (a : α) (t : List α) (n : Nat) (k : List α → Prop) : dropK (a :: t) (n + 1) k = dropK t n k := rfl
def overK {α : Type} (l vs : List α) : (List α → Prop) → Prop :=
  List.rec (motive := fun _ => List α → (List α → Prop) → Prop) (fun l k => k l) (fun v _ ih l k => match l with
    | [] => False
    | _ :: t => ih t fun r => k (v :: r)) vs l
theorem overK_z {α : Type} (l : List α) (k : List α → Prop) : overK l [] k = k l := rfl
theorem overK_n {α : Type} (v : α) (vs : List α) (k : List α → Prop) : overK [] (v :: vs) k = False := rfl
theorem overK_s {α : Type} (a : α) (t : List α) (v : α) (vs : List α) (k : List α → Prop) : overK (a :: t) (v :: vs) k = overK t vs fun r => k (v :: r) := rfl
def writeK {α : Type} (l : List α) (n : Nat) (vs : List α) : (List α → Prop) → Prop :=
  Nat.rec (motive := fun _ => List α → (List α → Prop) → Prop) (fun l k => overK l vs k) (fun _ ih l k => match l with
    | [] => False
    | a :: t => ih t fun r => k (a :: r)) n l
theorem writeK_z {α : Type} (l vs : List α) (k : List α → Prop) : writeK l 0 vs k = overK l vs k := rfl
theorem writeK_n {α : Type} (n : Nat) (vs : List α) (k : List α → Prop) : writeK [] (n + 1) vs k = False := rfl
theorem writeK_s {α : Type} (a : α) (t : List α) (n : Nat) (vs : List α) (k : List α → Prop) : writeK (a :: t) (n + 1) vs k = writeK t n vs fun r => k (a :: r) := rfl
def appK {α : Type} (l m : List α) : (List α → Prop) → Prop :=
  List.rec (motive := fun _ => (List α → Prop) → Prop) (fun k => k m) (fun a _ ih k => ih fun r => k (a :: r)) l
theorem appK_n {α : Type} (m : List α) (k : List α → Prop) : appK [] m k = k m := rfl
theorem appK_s {α : Type} (a : α) (t m : List α) (k : List α → Prop) : appK (a :: t) m k = appK t m fun r => k (a :: r) := rfl
/-- a list, its spine reckoned; an array's list -/
def spineK {α : Type} (l : List α) : (List α → Prop) → Prop :=
  List.rec (motive := fun _ => (List α → Prop) → Prop) (fun k => k []) (fun a _ ih k => ih fun r => k (a :: r)) l
theorem spineK_n {α : Type} (k : List α → Prop) : spineK [] k = k [] := rfl
theorem spineK_s {α : Type} (a : α) (t : List α) (k : List α → Prop) : spineK (a :: t) k = spineK t fun r => k (a :: r) := rfl
def arrK {α : Type} (a : Array α) (k : List α → Prop) : Prop := match a with
  | ⟨l⟩ => spineK l k
/-- n copies -/
def repK {α : Type} (n : Nat) (l : List α) : List α → (List α → Prop) → Prop :=
  Nat.rec (motive := fun _ => List α → (List α → Prop) → Prop) (fun acc k => k acc) (fun _ ih acc k => appK l acc fun r => ih r k) n
theorem repK_z {α : Type} (l acc : List α) (k : List α → Prop) : repK 0 l acc k = k acc := rfl
theorem repK_s {α : Type} (n : Nat) (l acc : List α) (k : List α → Prop) : repK (n + 1) l acc k = appK l acc fun r => repK n l r k := rfl
/-- a number, reckoned -/
def litK (n : Nat) (k : Nat → Prop) : Prop := match n + 1 with
  | 0 => False
  | m + 1 => k m
def cntK {α : Type} (l : List α) : Nat → (Nat → Prop) → Prop :=
  List.rec (motive := fun _ => Nat → (Nat → Prop) → Prop) (fun n k => k n) (fun _ _ ih n k => litK (n + 1) fun m => ih m k) l
theorem cntK_n {α : Type} (n : Nat) (k : Nat → Prop) : cntK ([] : List α) n k = k n := rfl
theorem cntK_s {α : Type} (a : α) (t : List α) (n : Nat) (k : Nat → Prop) : cntK (a :: t) n k = litK (n + 1) fun m => cntK t m k := rfl
/-- a test that must hold -/
def need (b : Bool) (p : Prop) : Prop := @Bool.rec (fun _ => Prop) False p b
/-- a test that parts the ways -/
def bcase (b : Bool) (p : Bool → Prop) : Prop := @Bool.rec (fun _ => Prop) (p false) (p true) b

/-! ## Types -/
structure TI where
  desc : TypeDesc
  agg : Bool
  size : Nat
  bytes : Nat
  len : Nat := 0
  elem : Nat := 0
  esz : Nat := 0
  fields : List (Nat × Nat) := []
  zero : Value
  eqk : Option IntKind := none
  bad : Bool := false
abbrev Tab := List (List TI)
def tiK (T : Tab) (t : Nat) (k : TI → Prop) : Prop := nthK T (t / 16) fun r => nthK r (t % 16) fun i => match i.bad with
  | true => False
  | false => k i

/-! ## States -/
structure St where
  t : List (List Value)
  h : List Obj
  d : List Nat := []
def cleanV (v : Value) : Bool := match v with
  | .int _ _ => true
  | .bool _ => true
  | .string _ => true
  | .slice none _ _ => true
  | .map none => true
  | .pointer none => true
  | .nilFunc => true
  | .nilIface => true
  | _ => false
/-- an operand -/
def evK (s : St) (x : Operand) (k : Value → Prop) : Prop := match x with
  | .tmp i => nthK s.t (i / 16) fun r => nthK r (i % 16) fun v => match v with
    | .chan _ => False
    | v => k v
  | .const v => need (cleanV v) (k v)
  | .global g => k (.pointer (some ⟨g, 0, none⟩))
  | .func f => k (.func (.func f) #[] #[])
def evsK (s : St) (l : List Operand) : (List Value → Prop) → Prop :=
  List.rec (motive := fun _ => (List Value → Prop) → Prop) (fun k => k []) (fun x _ ih k => evK s x fun v => ih fun vs => k (v :: vs)) l
theorem evsK_n (s : St) (k : List Value → Prop) : evsK s [] k = k [] := rfl
theorem evsK_s (s : St) (x : Operand) (l : List Operand) (k : List Value → Prop) : evsK s (x :: l) k = evK s x fun v => evsK s l fun vs => k (v :: vs) := rfl
def partsK (s : St) (l : List (Nat × Operand)) : (List (Nat × Value) → Prop) → Prop :=
  List.rec (motive := fun _ => (List (Nat × Value) → Prop) → Prop) (fun k => k []) (fun x _ ih k => match x with
    | (i, x) => evK s x fun v => ih fun vs => k ((i, v) :: vs)) l
theorem partsK_n (s : St) (k : List (Nat × Value) → Prop) : partsK s [] k = k [] := rfl
theorem partsK_s (s : St) (i : Nat) (x : Operand) (l : List (Nat × Operand)) (k : List (Nat × Value) → Prop) : partsK s ((i, x) :: l) k = evK s x fun v => partsK s l fun vs => k ((i, v) :: vs) := rfl
/-- a slot written -/
def putK (s : St) (d : Option Nat) (v : Value) (k : St → Prop) : Prop := match d with
  | none => k s
  | some i => match s with
    | ⟨t, h, d⟩ => nthK t (i / 16) fun r => writeK r (i % 16) [v] fun r => writeK t (i / 16) [r] fun t => k ⟨t, h, d⟩

/-! ## Wrapping, in a form that is reckoned fast -/
def modN (k : IntKind) : Nat := match k with
  | .i8 => 256
  | .i16 => 65536
  | .i32 => 4294967296
  | .i64 => 18446744073709551616
  | .u8 => 256
  | .u16 => 65536
  | .u32 => 4294967296
  | .u64 => 18446744073709551616
def halfN (k : IntKind) : Nat := match k with
  | .i8 => 128
  | .i16 => 32768
  | .i32 => 2147483648
  | .i64 => 9223372036854775808
  | .u8 => 256
  | .u16 => 65536
  | .u32 => 4294967296
  | .u64 => 18446744073709551616
def foldN (k : IntKind) (r : Nat) : Int := match Nat.ble (halfN k) r with
  | true => Int.negSucc (modN k - 1 - r)
  | false => Int.ofNat r
def wrapS (k : IntKind) (n : Int) : Int := match n with
  | .ofNat m => foldN k (m % modN k)
  | .negSucc m => foldN k (modN k - 1 - m % modN k)

/-! ## Operations that hand back a value and turn nothing -/
def eqCellsK (xs ys : List Value) (kd : IntKind) : (Bool → Prop) → Prop :=
  List.rec (motive := fun _ => List Value → (Bool → Prop) → Prop) (fun ys k => match ys with
    | [] => k true
    | _ :: _ => False) (fun x _ ih ys k => match ys with
    | [] => False
    | y :: ys => match x with
      | .int kx a => match y with
        | .int ky b => need (decide (kx = kd)) (need (decide (ky = kd)) (ih ys fun r => k ((a == b) && r)))
        | _ => False
      | _ => False) xs ys
theorem eqCellsK_n (kd : IntKind) (k : Bool → Prop) : eqCellsK [] [] kd k = k true := rfl
theorem eqCellsK_x (y : Value) (ys : List Value) (kd : IntKind) (k : Bool → Prop) : eqCellsK [] (y :: ys) kd k = False := rfl
theorem eqCellsK_y (x : Value) (xs : List Value) (kd : IntKind) (k : Bool → Prop) : eqCellsK (x :: xs) [] kd k = False := rfl
theorem eqCellsK_s (kx ky : IntKind) (a b : Int) (xs ys : List Value) (kd : IntKind) (k : Bool → Prop) :
    eqCellsK (.int kx a :: xs) (.int ky b :: ys) kd k = need (decide (kx = kd)) (need (decide (ky = kd)) (eqCellsK xs ys kd fun r => k ((a == b) && r))) := rfl
def binIntK (op : BinOp) (kx : IntKind) (a : Int) (ky : IntKind) (b : Int) (k : Value → Prop) : Prop := match op with
  | .shl => need (decide (0 ≤ b)) (k (.int kx (wrapS kx (a * 2 ^ (min b.toNat kx.bits)))))
  | .shr => need (decide (0 ≤ b)) (k (.int kx (a.fdiv (2 ^ (min b.toNat kx.bits)))))
  | .add => need (decide (kx = ky)) (k (.int kx (wrapS kx (a + b))))
  | .sub => need (decide (kx = ky)) (k (.int kx (wrapS kx (a - b))))
  | .mul => need (decide (kx = ky)) (k (.int kx (wrapS kx (a * b))))
  | .quo => need (decide (kx = ky)) (need (!(b == 0)) (k (.int kx (wrapS kx (a.tdiv b)))))
  | .rem => need (decide (kx = ky)) (need (!(b == 0)) (k (.int kx (a.tmod b))))
  | .and => need (decide (kx = ky)) (k (.int kx (wrapS kx (BitVec.ofInt kx.bits a &&& BitVec.ofInt kx.bits b).toNat)))
  | .or => need (decide (kx = ky)) (k (.int kx (wrapS kx (BitVec.ofInt kx.bits a ||| BitVec.ofInt kx.bits b).toNat)))
  | .xor => need (decide (kx = ky)) (k (.int kx (wrapS kx (BitVec.ofInt kx.bits a ^^^ BitVec.ofInt kx.bits b).toNat)))
  | .andNot => need (decide (kx = ky)) (k (.int kx (wrapS kx (BitVec.ofInt kx.bits a &&& ~~~ BitVec.ofInt kx.bits b).toNat)))
  | .eql => need (decide (kx = ky)) (k (.bool (a == b)))
  | .neq => need (decide (kx = ky)) (k (.bool (a != b)))
  | .lss => need (decide (kx = ky)) (k (.bool (decide (a < b))))
  | .leq => need (decide (kx = ky)) (k (.bool (decide (a ≤ b))))
  | .gtr => need (decide (kx = ky)) (k (.bool (decide (a > b))))
  | .geq => need (decide (kx = ky)) (k (.bool (decide (a ≥ b))))
def isBoolD (d : TypeDesc) : Bool := match d with
  | .bool => true
  | _ => false
def isSliceD (d : TypeDesc) : Bool := match d with
  | .slice _ => true
  | _ => false
def nilA (p : Option Addr) : Bool := match p with
  | none => true
  | some _ => false
def binK (T : Tab) (op : BinOp) (t : Nat) (x y : Value) (k : Value → Prop) : Prop := match x with
  | .int kx a => match y with
    | .int ky b => binIntK op kx a ky b k
    | _ => False
  | .string a => match y with
    | .string b => match op with
      | .eql => k (.bool (a.toList == b.toList))
      | .neq => k (.bool (!(a.toList == b.toList)))
      | _ => False
    | _ => False
  | .slice p _ _ => match y with
    | .slice q _ _ => match q with
      | none => match op with
        | .eql => tiK T t fun i => need (isSliceD i.desc) (k (.bool (nilA p)))
        | _ => False
      | some _ => False
    | _ => False
  | .bool a => match y with
    | .bool b => match op with
      | .eql => tiK T t fun i => need (isBoolD i.desc) (k (.bool (a == b)))
      | .neq => tiK T t fun i => need (isBoolD i.desc) (k (.bool (!(a == b))))
      | _ => False
    | _ => False
  | .agg xs => match y with
    | .agg ys => match op with
      | .eql => tiK T t fun i => match i.eqk with
        | some kd => need (xs.size == i.size) (eqCellsK xs.toList ys.toList kd fun b => k (.bool b))
        | none => False
      | .neq => tiK T t fun i => match i.eqk with
        | some kd => need (xs.size == i.size) (eqCellsK xs.toList ys.toList kd fun b => k (.bool (!b)))
        | none => False
      | _ => False
    | _ => False
  | _ => False
def unK (op : UnOp) (x : Value) (k : Value → Prop) : Prop := match x with
  | .int kx a => match op with
    | .neg => k (.int kx (wrapS kx (0 - a)))
    | .xor => k (.int kx (wrapS kx (BitVec.ofInt kx.bits (if kx.signed then -1 else kx.max) ^^^ BitVec.ofInt kx.bits a).toNat))
    | _ => False
  | .bool b => match op with
    | .not => k (.bool (!b))
    | _ => False
  | _ => False
def glK (G : List (Nat × Obj)) (g : Nat) (k : Obj → Prop) : Prop :=
  List.rec (motive := fun _ => Prop) False (fun x _ ih => match x with
    | (n, o) => match Nat.beq n g with
      | true => k o
      | false => ih) G
theorem glK_n (g : Nat) (k : Obj → Prop) : glK [] g k = False := rfl
theorem glK_s (n : Nat) (o : Obj) (G : List (Nat × Obj)) (g : Nat) (k : Obj → Prop) : glK ((n, o) :: G) g k = match Nat.beq n g with
    | true => k o
    | false => glK G g k := rfl
/-- the cells that an address leads to -/
def cellsK (G : List (Nat × Obj)) (s : St) (a : Addr) (k : List Value → Prop) : Prop := match a.spot with
  | some _ => nthK s.h a.block fun o => match o with
    | .cells c _ _ => k c.toList
    | _ => False
  | none => glK G a.block fun o => match o with
    | .cells c _ _ => k c.toList
    | _ => False
def partK (c : List Value) (o : Nat) (agg : Bool) (n : Nat) (k : Value → Prop) : Prop := match agg with
  | true => dropK c o fun r => takeK r n fun r => k (.agg ⟨r⟩)
  | false => nthK c o k
/-- values without names -/
def closed2 (v : Value) : Bool := match v with
  | .agg cs => cs.toList.all cleanV
  | v => cleanV v
def closedV (v : Value) : Bool := match v with
  | .tuple vs => vs.toList.all closed2
  | v => closed2 v
/-- what is read at an address; of a block that came in ('pending') just what has no names -/
def loadK (G : List (Nat × Obj)) (s : St) (a : Addr) (g : Bool) (n : Nat) (k : Value → Prop) : Prop := match a.spot with
  | some _ => nthK s.h a.block fun o => match o with
    | .cells c _ _ => partK c.toList a.off g n k
    | .pending c _ => partK c.toList a.off g n fun v => need (closed2 v) (k v)
    | _ => False
  | none => cellsK G s a fun c => partK c a.off g n k
/-- these cells lie there -/
def HasAt (ob : Obj) (off : Nat) (xs : List Value) : Prop := match ob with
  | .cells c _ _ => ∀ j x, xs[j]? = some x → c[off + j]? = some x
  | .pending c _ => ∀ j x, xs[j]? = some x → c[off + j]? = some x
  | _ => False
abbrev cU8 (b : UInt8) : Value := .int .u8 (b.toNat : Int)
/-- bytes read as a string -/
def strK (s : St) (p : Option Addr) (n : Nat) (k : Value → Prop) : Prop := match p with
  | none => k (.string ByteArray.empty)
  | some a => match a.spot with
    | some _ => nthK s.h a.block fun o => ∃ l : List UInt8, l.length = n ∧ HasAt o a.off (l.map cU8) ∧ k (.string ⟨l.toArray⟩)
    | none => False
def notTup (v : Value) : Bool := match v with
  | .tuple _ => false
  | _ => true
def fillK (cells : List Value) (place : Nat → (Nat × Nat → Prop) → Prop) (l : List (Nat × Value)) : (List Value → Prop) → Prop :=
  List.rec (motive := fun _ => List Value → (List Value → Prop) → Prop) (fun cells k => k cells) (fun x _ ih cells k => match x with
    | (i, v) => place i fun p => match p with
      | (off, size) => need (notTup v) (need (v.cells.size == size) (writeK cells off v.cells.toList fun c => ih c k))) l cells
theorem fillK_n (cells : List Value) (place : Nat → (Nat × Nat → Prop) → Prop) (k : List Value → Prop) : fillK cells place [] k = k cells := rfl
theorem fillK_s (cells : List Value) (place : Nat → (Nat × Nat → Prop) → Prop) (i : Nat) (v : Value) (l : List (Nat × Value)) (k : List Value → Prop) :
    fillK cells place ((i, v) :: l) k = place i fun p => match p with
      | (off, size) => need (notTup v) (need (v.cells.size == size) (writeK cells off v.cells.toList fun c => fillK c place l k)) := rfl
def isSome {α : Type} (o : Option α) : Bool := match o with
  | some _ => true
  | none => false
/-- a bound of a slice -/
def boundK (s : St) (x : Option Operand) (d y : Nat) (k : Nat → Prop) : Prop := match x with
  | none => k d
  | some x => evK s x fun v => match v with
    | .int _ i => need (decide (0 ≤ i ∧ i ≤ y)) (k i.toNat)
    | _ => False
def sliceAddr (a : Addr) (l m sz : Nat) : Addr := if m = l then a else ⟨a.block, a.off + l * sz, a.spot⟩
def kindK (d : TypeDesc) (k : IntKind → Prop) : Prop := match d with
  | .int i => k i
  | _ => False
def maxK (op : Bool) (l : List Value) : Value → (Value → Prop) → Prop :=
  List.rec (motive := fun _ => Value → (Value → Prop) → Prop) (fun acc k => k acc) (fun y _ ih acc k => match acc with
    | .int kx a => match y with
      | .int _ b => ih (.int kx (match op with | true => if b > a then b else a | false => if b < a then b else a)) k
      | _ => False
    | _ => False) l
theorem maxK_n (op : Bool) (acc : Value) (k : Value → Prop) : maxK op [] acc k = k acc := rfl
theorem maxK_s (op : Bool) (y : Value) (l : List Value) (acc : Value) (k : Value → Prop) : maxK op (y :: l) acc k = match acc with
    | .int kx a => match y with
      | .int _ b => maxK op l (.int kx (match op with | true => if b > a then b else a | false => if b < a then b else a)) k
      | _ => False
    | _ => False := rfl
def isCap (v : Value) : Bool := match v with
  | .agg _ => false
  | .tuple _ => false
  | .func _ _ _ => false
  | _ => true
def isInt (v : Value) : Bool := match v with
  | .int _ _ => true
  | _ => false
def pureK (T : Tab) (G : List (Nat × Obj)) (s : St) (o : Op) (k : Value → Prop) : Prop := match o with
  | .move x => evK s x k
  | .assign x => evK s x k
  | .pick c a b => evK s c fun c => match c with
    | .bool c => bcase c fun t => match t with
      | true => evK s a k
      | false => evK s b k
    | _ => False
  | .binOp op t x y _ => evK s x fun a => evK s y fun b => binK T op t a b k
  | .unOp op _ x => evK s x fun a => unK op a k
  | .convert src dst x => evK s x fun a => match a with
    | .int _ n => tiK T src fun i => kindK i.desc fun _ => tiK T dst fun i => kindK i.desc fun kd => k (.int kd (wrapS kd n))
    | .slice p n _ => tiK T src fun i => match i.desc with
      | .slice e => tiK T e fun j => match j.desc with
        | .int kb => match kb with
          | .u8 => tiK T dst fun m => match m.desc with
            | .string => strK s p n k
            | _ => False
          | _ => False
        | _ => False
      | _ => False
    | _ => False
  | .extract x i => evK s x fun a => match a with
    | .tuple vs => nthK vs.toList i k
    | _ => False
  | .fieldAddr t x f => evK s x fun a => match a with
    | .pointer p => match p with
      | some a => tiK T t fun i => nthK i.fields f fun p => match p with
        | (off, size) => need (!(Nat.beq size 0)) (litK (a.off + off) fun z => k (.pointer (some ⟨a.block, z, a.spot⟩)))
      | none => False
    | _ => False
  | .indexAddr t x ix => evK s x fun a => evK s ix fun n => match n with
    | .int _ n => tiK T t fun i => match a with
      | .pointer p => match p with
        | some a => match i.desc with
          | .array len _ => need (decide (0 ≤ n ∧ n < len)) (litK (a.off + n.toNat * i.esz) fun z => k (.pointer (some ⟨a.block, z, a.spot⟩)))
          | _ => False
        | none => False
      | .slice p len _ => match p with
        | some a => match i.desc with
          | .slice _ => need (decide (0 ≤ n ∧ n < len)) (litK (a.off + n.toNat * i.esz) fun z => k (.pointer (some ⟨a.block, z, a.spot⟩)))
          | _ => False
        | none => False
      | _ => False
    | _ => False
  | .index t x ix => evK s x fun a => evK s ix fun n => match n with
    | .int _ n => tiK T t fun i => match a with
      | .agg cs => match i.desc with
        | .array len e => need (decide (0 ≤ n ∧ n < len)) (tiK T e fun j => partK cs.toList (n.toNat * i.esz) j.agg j.size k)
        | _ => False
      | _ => False
    | _ => False
  | .load t x => evK s x fun a => match a with
    | .pointer p => match p with
      | some a => tiK T t fun i => loadK G s a i.agg i.size k
      | none => False
    | _ => False
  | .build t parts => partsK s parts.toList fun ps => tiK T t fun i => match i.desc with
    | .array len _ => fillK i.zero.cells.toList (fun j k => need (Nat.blt j len) (k (j * i.esz, i.esz))) ps fun c => k (.agg ⟨c⟩)
    | .struct _ => fillK i.zero.cells.toList (fun j k => nthK i.fields j k) ps fun c => k (.agg ⟨c⟩)
    | _ => False
  | .makeFunc fn first caps => evsK s first.toList fun fs => evsK s caps.toList fun cs => need ((fs ++ cs).all isCap) (k (.func fn ⟨fs⟩ ⟨cs⟩))
  | .slice t x lo hi mx => evK s x fun a => tiK T t fun i => match a with
    | .slice p len cap => match p with
      | some a => match i.desc with
        | .slice _ => boundK s mx cap cap fun m => boundK s hi len m fun h => boundK s lo 0 h fun l => need (isSome hi || !(isSome mx)) (k (.slice (some (sliceAddr a l m i.esz)) (h - l) (m - l)))
        | _ => False
      | none => match i.desc with
        | .slice _ => boundK s mx cap cap fun m => boundK s hi len m fun h => boundK s lo 0 h fun l => need (isSome hi || !(isSome mx)) (k (.slice none (h - l) (m - l)))
        | _ => False
    | .pointer p => match p with
      | some a => match i.desc with
        | .array n _ => boundK s mx n n fun m => boundK s hi n m fun h => boundK s lo 0 h fun l => need (isSome hi || !(isSome mx)) (k (.slice (some (sliceAddr a l m i.esz)) (h - l) (m - l)))
        | _ => False
      | none => False
    | _ => False
  | .sliceToArrayPointer t x => evK s x fun a => match a with
    | .slice p len _ => match p with
      | some a => tiK T t fun i => match i.desc with
        | .array n _ => need (decide (n ≤ len)) (k (.pointer (some a)))
        | _ => False
      | none => False
    | _ => False
  | .call c => match c.callee with
    | .builtin b => match b with
      | .len => evsK s c.args.toList fun vs => match vs with
        | [] => False
        | v :: _ => match c.argTypes.toList with
          | [] => False
          | t :: _ => tiK T t fun i => match v with
            | .slice _ n _ => match i.desc with
              | .slice _ => k (.int .i64 n)
              | _ => False
            | .string z => match i.desc with
              | .string => k (.int .i64 z.size)
              | _ => False
            | _ => False
      | .max => evsK s c.args.toList fun vs => match vs with
        | [] => False
        | v :: vs => need (isInt v) (maxK true vs v k)
      | .min => evsK s c.args.toList fun vs => match vs with
        | [] => False
        | v :: vs => need (isInt v) (maxK false vs v k)
      | _ => False
    | _ => False
  | _ => False

end Go.Proofs.YtjpjnjidchdlbaaDoor
