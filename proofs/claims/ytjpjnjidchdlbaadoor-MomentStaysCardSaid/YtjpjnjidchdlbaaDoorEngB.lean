/-
  What an abstract state says of a world, what a call and a piece of code owe, and how code is run on abstract states: definitions alone (no condition).
-/
import Derived.Test.YtjpjnjidchdlbaaDoorEngA
namespace Go.Proofs.YtjpjnjidchdlbaaDoor
set_option linter.unusedSimpArgs false
set_option linter.unusedVariables false
open Go Go.RowKit

/-! ## What an abstract heap says of a world -/
def hot (o : Obj) : Bool := match o with
  | .cells _ _ f => f.1 == 0
  | .deferred _ => true
  | .loop _ => true
  | .map _ _ => true
  | _ => false
def alive (o : Obj) : Bool := match o with
  | .cells _ _ _ => true
  | .deferred _ => true
  | .map _ _ => true
  | .loop _ => true
  | .pending _ _ => true
  | _ => false
def isMark (v : Value) : Bool := match v with
  | .chan _ => true
  | _ => false
/-- a loop's record: its own number stands where the machine's record has the number of the block for deferred calls; a slot that is not known bears a mark -/
def LoopOk (r : Ren) (b : Nat) (l : Loop) (w : World) : Prop :=
  b = l.defers ∧ ∃ (arr : Array Value) (d : Nat), w.heap[b]? = some (.loop { l with tmps := arr, defers := d }) ∧ l.tmps.size ≤ arr.size ∧
    ∀ (i : Nat) (v : Value), l.tmps[i]? = some v → isMark v = false → arr[i]? = some (c1 r v)
def ObjOk (r : Ren) (b : Nat) (o : Obj) (w : World) : Prop := match o with
  | .cells c t f => if f.1 = 0 then w.heap[b]? = some (.cells (c.map (c1 r)) t (0, 0)) else ∃ g, w.heap[b]? = some (.cells (c.map (c1 r)) t g)
  | .deferred _ => w.heap[b]? = some (.deferred (some []))
  | .pending c t => ∃ g, w.heap[b]? = some (.cells c t g)
  | .map es k => w.heap[b]? = some (.map (es.map fun e => { key := e.key, val := c1 r e.val, born := e.born }) k)
  | .loop l => LoopOk r b l w
  | _ => True
def cellsOf (o : Obj) : List Value := match o with
  | .cells c _ _ => c.toList
  | .map es _ => es.toList.map (·.val)
  | .loop l => l.tmps.toList
  | _ => []
structure RepH (G : List (Nat × Obj)) (r : Ren) (h : List Obj) (w : World) : Prop where
  ok : ∀ (i : Nat) (o : Obj), h[i]? = some o → ObjOk r (r i) o w
  inj : ∀ (i j : Nat) (o u : Obj), h[i]? = some o → h[j]? = some u → hot o = true → alive u = true → r i = r j → i = j
  sc : ∀ (i : Nat) (o : Obj), h[i]? = some o → ∀ v ∈ cellsOf o, s1 h.length v
  gl : ∀ (g : Nat) (o : Obj), (g, o) ∈ G → (∃ c t f, o = .cells c t f ∧ (∀ v ∈ c.toList, s1 0 v) ∧ ∃ f', w.heap[g]? = some (.cells c t f')) ∧ ∀ (i : Nat) (u : Obj), h[i]? = some u → hot u = true → r i ≠ g
def HotSet (r : Ren) (h : List Obj) (k : Nat) : Prop := ∃ i o, h[i]? = some o ∧ hot o = true ∧ r i = k
/-- all that lay lies as it lay, but for S -/
structure Keep (S : Nat → Prop) (w w' : World) : Prop where
  os : w'.os = w.os
  tape : w'.tape = w.tape
  output : w'.output = w.output
  size : w.heap.size ≤ w'.heap.size
  block : ∀ k, k < w.heap.size → ¬ S k → w'.heap[k]? = w.heap[k]?
structure Step (r : Ren) (h : List Obj) (w : World) (r' : Ren) (h' : List Obj) (w' : World) : Prop where
  len : h.length ≤ h'.length
  ext : ∀ i, i < h.length → r' i = r i
  keep : Keep (HotSet r h) w w'
  own : ∀ (i : Nat) (o : Obj), h'[i]? = some o → alive o = true → (hot o = true ∨ h.length ≤ i) → HotSet r h (r' i) ∨ w.heap.size ≤ r' i
  dead : ∀ (i : Nat) (o : Obj), h[i]? = some o → alive o = false → ∃ o', h'[i]? = some o' ∧ alive o' = false
  dfr : ∀ (i : Nat) (o : Option (List Deferred)), h[i]? = some (.deferred o) → h'[i]? = some (.deferred o)
def get2 (t : List (List Value)) (i : Nat) : Option Value := (t[i / 16]?).bind fun r => r[i % 16]?
def markOf (r : Ren) (i : Nat) : Deferred := { target := .collected (r i), args := #[] }
structure RepS (G : List (Nat × Obj)) (r : Ren) (s : St) (a : Act) (w : World) : Prop where
  heap : RepH G r s.h w
  tmp : ∀ i v, get2 s.t i = some v → i < a.tmps.size ∧ (isMark v = false → a.tmps[i]? = some (c3 r v) ∧ s3 s.h.length v)
  dfr : a.defers = s.d.map (markOf r)
  dok : ∀ i ∈ s.d, ∃ o, s.h[i]? = some (.deferred o)
abbrev fen (ro : Option Nat) : Fence := match ro with
  | none => Fence.wide
  | some l => Fence.wide.inRound l

/-! ## What is owed -/
/-- f is a function with a body -/
def Has (P : Program) (f : FuncId) (fn : Func) : Prop := P.funcs[f]? = some fn ∧ (fn.name == "runtime.NumGoroutine") = false ∧ fn.body.isSome = true
/-- a call of function f: it hands back a value, and leaves a heap, that k takes -/
@[irreducible] def AC (P : Program) (G : List (Nat × Obj)) (f : FuncId) (args : List Value) (h : List Obj) (k : Value → List Obj → Prop) : Prop :=
  (∃ fn, Has P f fn) ∧
  ∀ (r : Ren) (w : World), RepH G r h w → (∀ v ∈ args, s3 h.length v) →
    Calls P f (args.map (c3 r)).toArray w fun e w' => ∃ r' h' v, Step r h w r' h' w' ∧ RepH G r' h' w' ∧ s3 h'.length v ∧ e = .returned (c3 r' v) ∧ k v h'
/-- a piece of code, from an abstract state on -/
@[irreducible] def AW (P : Program) (G : List (Nat × Obj)) (ro : Option Nat) (c : Code) (s : St) (K : Exit → St → Prop) : Prop :=
  ∀ (r : Ren) (a : Act) (w : World), RepS G r s a w →
    c.wpIn (fen ro) 0 P (fun e a' w' => ∃ r' s', Step r s.h w r' s'.h w' ∧ RepS G r' s' a' w' ∧ K e s') a w
/-- an operation of a region -/
@[irreducible] def AO (P : Program) (G : List (Nat × Obj)) (ro : Option Nat) (o : Oper) (s : St) (K : St → Prop) : Prop :=
  ∀ (r : Ren) (a : Act) (w : World), RepS G r s a w → ∀ (N : Act → World → Prop) (Q : Exit → Act → World → Prop),
    (∀ r' s' a' w', Step r s.h w r' s'.h w' → RepS G r' s' a' w' → K s' → N a' w') → o.wpIn (fen ro) 0 P a w N Q
/-- a region that draws its order -/
@[irreducible] def AD (P : Program) (G : List (Nat × Obj)) (ro : Option Nat) (ops : Array Oper) (s : St) (K : St → Prop) : Prop :=
  ∀ id, AW P G ro (.region id ops true) s fun e s' => match e with
    | .normal => K s'
    | _ => False

/-! ## Running code on abstract states -/
def pushK (s : St) (o : Obj) (k : Nat → St → Prop) : Prop := match s with
  | ⟨t, h, d⟩ => cntK h 0 fun n => appK h [o] fun h => k n ⟨t, h, d⟩
def heapK (s : St) (h : List Obj) (k : St → Prop) : Prop := match s with
  | ⟨t, _, d⟩ => k ⟨t, h, d⟩
def callK (P : Program) (G : List (Nat × Obj)) (alt : Prop) (s : St) (d : Option Nat) (f : Value) (args : List Value) (K : St → Prop) : Prop := match f with
  | .func fn fs cs => match fn with
    | .yield _ => alt
    | .func n => match fs.toList with
      | [] => arrK cs fun cs => appK args cs fun all => AC P G n all s.h fun v h => heapK s h fun s => putK s d v K
      | _ :: _ => False
    | _ => False
  | _ => False
def opK (P : Program) (T : Tab) (G : List (Nat × Obj)) (ro : Option Nat) (s : St) (o : Oper) (K : St → Prop) : Prop := match o.op with
  | .alloc t => tiK T t fun i => arrK i.zero.cells fun c => pushK s (.cells ⟨c⟩ t) fun n s => putK s o.dst (ptr n 0) K
  | .box t x => evK s x fun v => need (notTup v) (arrK v.cells fun c => pushK s (.cells ⟨c⟩ t) fun n s => putK s o.dst (ptr n 0) K)
  | .store t x y => evK s x fun a => evK s y fun v => match a with
    | .pointer p => match p with
      | some a => match a.spot with
        | some _ => tiK T t fun i => need (notTup v && v.cells.size == i.size) (nthK s.h a.block fun b => match b with
          | .cells c e f => match f.1 with
            | 0 => writeK c.toList a.off v.cells.toList fun c => writeK s.h a.block [.cells ⟨c⟩ e] fun h => heapK s h fun s => putK s o.dst undef K
            | _ + 1 => False
          | _ => False)
        | none => False
      | none => False
    | _ => False
  | .buildSlice t len parts => partsK s parts.toList fun ps => tiK T t fun i => match i.desc with
    | .slice e => tiK T e fun j => need (decide (len * j.size ≤ 16777216)) (arrK j.zero.cells fun z => repK len z [] fun c => fillK c (fun n k => k (n * j.size, j.size)) ps fun c =>
        pushK s (.cells ⟨c⟩ e) fun n s => putK s o.dst (slc n 0 len len) K)
    | _ => False
  | .call c => match c.callee with
    | .value f => evK s f fun f => evsK s c.args.toList fun vs => callK P G (AO P G ro o s K) s o.dst f vs K
    | .builtin b => match b with
      | .append => AO P G ro o s K
      | .cap => AO P G ro o s K
      | _ => pureK T G s o.op fun v => putK s o.dst v K
    | _ => False
  | .convert src dst x => match Nat.beq src dst with
    | true => AO P G ro o s K
    | false => pureK T G s o.op fun v => putK s o.dst v K
  | .makeSlice _ _ _ => AO P G ro o s K
  | .makeMap _ _ => AO P G ro o s K
  | .insert _ _ _ _ => AO P G ro o s K
  | .lookup _ _ _ _ => AO P G ro o s K
  | .go _ => False
  | .defer _ => False
  | _ => pureK T G s o.op fun v => putK s o.dst v K
/-- one operation, its guard asked -/
def guardK (P : Program) (T : Tab) (G : List (Nat × Obj)) (ro : Option Nat) (all : List Oper) (s : St) (o : Oper) (K : St → Prop) : Prop := match o.guard with
  | none => opK P T G ro s o K
  | some g => match g with
    | (j, want) => nthK all j fun p => match p.dst with
      | none => False
      | some d => nthK s.t (d / 16) fun r => nthK r (d % 16) fun v => match v with
        | .bool b => bcase b fun t => putK s (some d) (.bool t) fun s => match t == want with
          | true => opK P T G ro s o K
          | false => putK s o.dst undef K
        | .tuple _ => putK s o.dst undef K
        | _ => False
def opsK (P : Program) (T : Tab) (G : List (Nat × Obj)) (ro : Option Nat) (all : List Oper) (l : List Oper) : St → (St → Prop) → Prop :=
  List.rec (motive := fun _ => St → (St → Prop) → Prop) (fun s K => K s) (fun o _ ih s K => guardK P T G ro all s o fun s => ih s K) l
theorem opsK_n (P : Program) (T : Tab) (G : List (Nat × Obj)) (ro : Option Nat) (all : List Oper) (s : St) (K : St → Prop) : opsK P T G ro all [] s K = K s := rfl
theorem opsK_s (P : Program) (T : Tab) (G : List (Nat × Obj)) (ro : Option Nat) (all : List Oper) (o : Oper) (l : List Oper) (s : St) (K : St → Prop) :
    opsK P T G ro all (o :: l) s K = guardK P T G ro all s o fun s => opsK P T G ro all l s K := rfl
def run (P : Program) (T : Tab) (G : List (Nat × Obj)) (ro : Option Nat) (c : Code) : St → (Exit → St → Prop) → Prop :=
  Code.rec (motive := fun _ => St → (Exit → St → Prop) → Prop)
    (skip := fun s K => K .normal s)
    (region := fun _ ops draw s K => match draw with
      | false => opsK P T G ro ops.toList ops.toList s fun s => K .normal s
      | true => AD P G ro ops s fun s => K .normal s)
    (seq := fun _ _ iha ihb s K => iha s fun e s => match e with
      | .normal => ihb s K
      | .exit i => K (.exit i) s
      | .goto i => K (.goto i) s
      | .ret => K .ret s
      | _ => False)
    (cond := fun c _ _ ihx ihy s K => evK s c fun v => match v with
      | .bool b => bcase b fun t => match t with
        | true => ihx s K
        | false => ihy s K
      | _ => False)
    (block := fun id _ ih s K => ih s fun e s => match e with
      | .normal => K .normal s
      | .exit i => match Nat.beq i id with
        | true => K .normal s
        | false => K (.exit i) s
      | .goto i => K (.goto i) s
      | .ret => K .ret s
      | _ => False)
    (loop := fun body _ s K => AW P G ro (.loop body) s K)
    (rangeFunc := fun f ps x y _ _ s K => AW P G ro (.rangeFunc f ps x y) s K)
    (exit := fun i s K => K (.exit i) s)
    (scope := fun body _ s K => AW P G ro (.scope body) s K)
    (label := fun _ s K => K .normal s)
    (goto := fun i s K => K (.goto i) s)
    (ret := fun s K => K .ret s)
    (refuse := fun _ _ _ => False) c
/-- the slots of a frame, in rows of sixteen -/
def rowK (n : Nat) : List Value → Nat → (List Value → List Value → Nat → Prop) → Prop :=
  Nat.rec (motive := fun _ => List Value → Nat → (List Value → List Value → Nat → Prop) → Prop) (fun l m k => k [] l m) (fun _ ih l m k => match l with
    | v :: l => ih l m fun r l m => k (v :: r) l m
    | [] => match m with
      | 0 => k [] [] 0
      | m + 1 => ih [] m fun r l m => k (undef :: r) l m) n
def rowsK (n : Nat) : List Value → Nat → (List (List Value) → Prop) → Prop :=
  Nat.rec (motive := fun _ => List Value → Nat → (List (List Value) → Prop) → Prop) (fun _ _ k => k []) (fun _ ih l m k =>
    rowK 16 l m fun r l m => ih l m fun rs => k (r :: rs)) n
theorem rowsK_s (n : Nat) (l : List Value) (m : Nat) (k : List (List Value) → Prop) : rowsK (n + 1) l m k = rowK 16 l m fun r l m => rowsK n l m fun rs => k (r :: rs) := rfl
/-- a result variable is read -/
def ldK (T : Tab) (s : St) (t : TypeId) (x : Operand) (k : Value → Prop) : Prop := evK s x fun a => match a with
  | .pointer p => match p with
    | some a => tiK T t fun i => cellsK [] s a fun c => partK c a.off i.agg i.size k
    | none => False
  | _ => False
/-- what a function hands back -/
def resK (T : Tab) (s : St) (l : List ResultVar) : (List Value → Prop) → Prop :=
  List.rec (motive := fun _ => (List Value → Prop) → Prop) (fun k => k []) (fun x _ ih k => match x with
    | .tmp t => evK s (.tmp t) fun v => need (notTup v) (ih fun vs => k (v :: vs))
    | .cell a t => ldK T s t (.tmp a) fun v => need (notTup v) (ih fun vs => k (v :: vs))) l
theorem resK_n (T : Tab) (s : St) (k : List Value → Prop) : resK T s [] k = k [] := rfl
theorem resK_t (T : Tab) (s : St) (t : Nat) (l : List ResultVar) (k : List Value → Prop) : resK T s (.tmp t :: l) k = evK s (.tmp t) fun v => need (notTup v) (resK T s l fun vs => k (v :: vs)) := rfl
theorem resK_c (T : Tab) (s : St) (a t : Nat) (l : List ResultVar) (k : List Value → Prop) : resK T s (.cell a t :: l) k = ldK T s t (.tmp a) fun v => need (notTup v) (resK T s l fun vs => k (v :: vs)) := rfl
def tupK (l : List Value) (k : Value → Prop) : Prop := match l with
  | [] => k (.tuple #[])
  | v :: t => match t with
    | [] => k v
    | _ :: _ => k (.tuple ⟨l⟩)
def endK (T : Tab) (fn : Func) (K : Value → St → Prop) (e : Exit) (s : St) : Prop := match e with
  | .normal => resK T s fn.results.toList fun l => tupK l fun v => K v s
  | .ret => resK T s fn.results.toList fun l => tupK l fun v => K v s
  | _ => False
def bodyK (P : Program) (T : Tab) (G : List (Nat × Obj)) (fn : Func) (args : List Value) (h : List Obj) (K : Value → St → Prop) : Prop := match fn.body with
  | none => False
  | some c => rowsK (fn.ntmps / 16 + 1) args (fn.ntmps - args.length) fun t => run P T G none c { t := t, h := h } (endK T fn K)

end Go.Proofs.YtjpjnjidchdlbaaDoor
