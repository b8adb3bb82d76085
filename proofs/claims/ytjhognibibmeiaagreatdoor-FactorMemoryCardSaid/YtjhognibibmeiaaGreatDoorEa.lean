/-
  THE EVALUATOR, first part: abstract values, the abstract heap, and what one operation does to them. No program stands here.
-/
import Derived.WalkKit
set_option linter.unusedVariables false
namespace Go.Proofs.YtjhognibibmeiaaGreatDoor
namespace E
open Go

/-- An abstract value. 'v x': the value x itself. 'agg', 'tup': parts. 'rd es': a slice that is read, its elements' cells. 'sl': a slice in a row of the call's own. 'ptr': the address of a cell of such a row or box. 'eptr': the address of a cell of an element that is read. 'mp': a map of the call's own. 'clo': a function with what it captured. 'unk': anything. -/
inductive LV where
  | v (x : Value)
  | agg (cs : List LV)
  | tup (vs : List LV)
  | rd (es : List (List LV))
  | sl (id off len : Nat) (cap : Option Nat)
  | ptr (id i sub : Nat)
  | eptr (e : List LV) (sub : Nat)
  | mp (id : Nat)
  | clo (f : Nat) (caps : List LV)
  | unk

/-- A block of the call's own: a row of elements of sz cells ('exact': no spare room but what is told), a box (one variable), a map (keys of whole numbers), or one that is no longer told. -/
inductive Blk where
  | row (sz : Nat) (exact : Bool) (es : List (List LV))
  | box (cs : List LV)
  | map (ag : Bool) (kn : Nat) (m : List (List Int × LV))
  | dead

structure St where
  t : List LV
  h : List Blk

/-- What is known of a type. -/
structure TD where
  desc : TypeDesc
  sz : Nat
  bytes : Nat
  zero : List Value

def TD.isAgg (d : TD) : Bool :=
  match d.desc with
  | .struct _ | .array _ _ => true
  | _ => false

abbrev Spec := List LV → List Blk → (LV → List Blk → Prop) → Prop

structure Ctx where
  T : Nat → Option TD
  C : Nat → Spec
  q : Nat → Bool
  eq : Nat → Bool
  glob : Nat → Option (List Value)

/-! ### Lists, in the passing style -/
section
variable {α : Type}
def getK : List α → Nat → (α → Prop) → Prop
  | [], _, _ => False
  | x :: _, 0, k => k x
  | _ :: xs, n + 1, k => getK xs n k
def setK : List α → Nat → α → (List α → Prop) → Prop
  | [], _, _, _ => False
  | _ :: xs, 0, y, k => k (y :: xs)
  | x :: xs, n + 1, y, k => setK xs n y fun r => k (x :: r)
/-- A list with one more at its end, and how long it was. -/
def snocK : List α → α → (Nat → List α → Prop) → Prop
  | [], y, k => k 0 [y]
  | x :: xs, y, k => snocK xs y fun n r => k (n + 1) (x :: r)
def dropK : List α → Nat → (List α → Prop) → Prop
  | xs, 0, k => k xs
  | [], _ + 1, _ => False
  | _ :: xs, n + 1, k => dropK xs n k
def takeK : List α → Nat → (List α → Prop) → Prop
  | _, 0, k => k []
  | [], _ + 1, _ => False
  | x :: xs, n + 1, k => takeK xs n fun r => k (x :: r)
def segK (xs : List α) (off n : Nat) (k : List α → Prop) : Prop := dropK xs off fun r => takeK r n k
def appK : List α → List α → (List α → Prop) → Prop
  | [], ys, k => k ys
  | x :: xs, ys, k => appK xs ys fun r => k (x :: r)
/-- ys laid over xs from place 0 on. -/
def overK : List α → List α → (List α → Prop) → Prop
  | xs, [], k => k xs
  | [], _ :: _, _ => False
  | _ :: xs, y :: ys, k => overK xs ys fun r => k (y :: r)
def spliceK : List α → Nat → List α → (List α → Prop) → Prop
  | xs, 0, ys, k => overK xs ys k
  | [], _ + 1, _, _ => False
  | x :: xs, n + 1, ys, k => spliceK xs n ys fun r => k (x :: r)
def repK (x : α) : Nat → (List α → Prop) → Prop
  | 0, k => k []
  | n + 1, k => repK x n fun r => k (x :: r)
end

/-! ### Places where the reckoning may have to be told something -/
def pickB (b : Bool) (A B : Prop) : Prop :=
  match b with
  | true => A
  | false => B
def idxB (i len : Int) (k : Prop) : Prop :=
  match decide (0 ≤ i), decide (i < len) with
  | true, true => k
  | _, _ => False
def leB (i len : Int) (k : Prop) : Prop :=
  match decide (0 ≤ i), decide (i ≤ len) with
  | true, true => k
  | _, _ => False
def nnB (i : Int) (k : Prop) : Prop :=
  match decide (0 ≤ i) with
  | true => k
  | false => False
def nzB (i : Int) (k : Prop) : Prop :=
  match decide (i = 0) with
  | true => False
  | false => k
def lenB (m n : Nat) (k : Prop) : Prop :=
  match decide (m = n) with
  | true => k
  | false => False
def eltK {α : Type} (xs : List α) (n : Nat) (k : α → Prop) : Prop :=
  match xs[n]? with
  | some x => k x
  | none => False
def optB {α : Type} (o : Option α) (A : α → Prop) (B : Prop) : Prop :=
  match o with
  | some x => A x
  | none => B
def condB (v : LV) (A B : Prop) : Prop :=
  match v with
  | .v (.bool true) => A
  | .v (.bool false) => B
  | _ => False
/-- A truth that was found: the reckoning goes on with each. -/
def boolK (b : Bool) (k : LV → Prop) : Prop := pickB b (k (.v (.bool true))) (k (.v (.bool false)))
section
variable {A B : Prop}
theorem boolK_iff {b : Bool} {k : LV → Prop} : boolK b k ↔ k (.v (.bool b)) := by cases b <;> simp [boolK, pickB]
theorem pickB_iff {b : Bool} : pickB b A B ↔ (b = true → A) ∧ (b = false → B) := by cases b <;> simp [pickB]
theorem idxB_iff {i len : Int} : idxB i len A ↔ 0 ≤ i ∧ i < len ∧ A := by
  unfold idxB
  split
  · rename_i h1 h2; simp at h1 h2; simp [h1, h2]
  · rename_i h
    refine ⟨False.elim, fun ⟨h1, h2, _⟩ => h (by simpa using h1) (by simpa using h2)⟩
theorem leB_iff {i len : Int} : leB i len A ↔ 0 ≤ i ∧ i ≤ len ∧ A := by
  unfold leB
  split
  · rename_i h1 h2; simp at h1 h2; simp [h1, h2]
  · rename_i h
    refine ⟨False.elim, fun ⟨h1, h2, _⟩ => h (by simpa using h1) (by simpa using h2)⟩
theorem nnB_iff {i : Int} : nnB i A ↔ 0 ≤ i ∧ A := by
  unfold nnB
  split
  · rename_i h1; simp at h1; simp [h1]
  · rename_i h1; simp at h1; simp; omega
theorem nzB_iff {i : Int} : nzB i A ↔ i ≠ 0 ∧ A := by
  unfold nzB
  split
  · rename_i h1; simp at h1; simp [h1]
  · rename_i h1; simp at h1; simp [h1]
theorem lenB_iff {m n : Nat} : lenB m n A ↔ m = n ∧ A := by
  unfold lenB
  split
  · rename_i h1; simp at h1; simp [h1]
  · rename_i h1; simp at h1; simp [h1]
theorem eltK_iff {α : Type} {xs : List α} {n : Nat} {k : α → Prop} : eltK xs n k ↔ ∃ x, xs[n]? = some x ∧ k x := by
  unfold eltK
  split
  · rename_i x h; simp [h]
  · rename_i h; simp [h]
theorem optB_iff {α : Type} {o : Option α} {A : α → Prop} : optB o A B ↔ (∀ x, o = some x → A x) ∧ (o = none → B) := by cases o <;> simp [optB]
theorem condB_bool {b : Bool} : condB (.v (.bool b)) A B ↔ (b = true → A) ∧ (b = false → B) := by cases b <;> simp [condB]
end

def undefV : Value := .tuple #[]

/-- A constant. -/
def ofValue : Value → LV
  | .agg cs => .agg (cs.toList.map .v)
  | x => .v x

def opdK (X : Ctx) (t : List LV) : Operand → (LV → Prop) → Prop
  | .tmp i, k => getK t i k
  | .const x, k => k (ofValue x)
  | .global g, k =>
    match X.glob g with
    | some cs => k (.eptr (cs.map .v) 0)
    | none => False
  | .func f, k => k (.clo f [])

def opdsK (X : Ctx) (t : List LV) : List Operand → (List LV → Prop) → Prop
  | [], k => k []
  | o :: os, k => opdK X t o fun v => opdsK X t os fun vs => k (v :: vs)

/-- One cell's worth? -/
def oneL : LV → Bool
  | .v x => x.oneCell'
  | .agg _ | .tup _ | .unk => false
  | _ => true

/-- The cells of a value. -/
def cellsK (x : LV) (k : List LV → Prop) : Prop :=
  match x with
  | .agg cs => (match cs.all oneL with | true => k cs | false => False)
  | x => (match oneL x with | true => k [x] | false => False)

/-- Cells that name no block of the call's own. -/
def cleanK : List LV → (List LV → Prop) → Prop
  | [], k => k []
  | .v x :: r, k => cleanK r fun s => k (.v x :: s)
  | .rd es :: r, k => cleanK r fun s => k (.rd es :: s)
  | _ :: _, _ => False

def tdK (X : Ctx) (t : Nat) (k : TD → Prop) : Prop :=
  match X.T t with
  | some d => k d
  | none => False

/-- The value of type d at 'sub' of cells. -/
def partK (d : TD) (cs : List LV) (sub : Nat) (k : LV → Prop) : Prop :=
  match d.isAgg with
  | true => segK cs sub d.sz fun s => k (.agg s)
  | false => getK cs sub k

def loadK (X : Ctx) (h : List Blk) (ty : Nat) (p : LV) (k : LV → Prop) : Prop :=
  tdK X ty fun d =>
    match p with
    | .ptr id i sub => getK h id fun b =>
      match b with
      | .box cs => (match i with | 0 => partK d cs sub k | _ + 1 => False)
      | .row _ _ es =>
        eltK es i fun e => partK d e sub k
      | _ => False
    | .eptr e sub => partK d e sub k
    | _ => False

def storeK (X : Ctx) (h : List Blk) (ty : Nat) (p x : LV) (k : List Blk → Prop) : Prop :=
  tdK X ty fun d => cellsK x fun cs => lenB cs.length d.sz <|
      match p with
      | .ptr id i sub => getK h id fun b =>
        match b with
        | .box old => (match i with | 0 => spliceK old sub cs fun new => setK h id (.box new) k | _ + 1 => False)
        | .row sz ex es => cleanK cs fun cs =>
          eltK es i fun e => spliceK e sub cs fun new => setK h id (.row sz ex (es.set i new)) k
        | _ => False
      | _ => False

/-- Two integers. -/
def intK (op : BinOp) (ka : IntKind) (a : Int) (kb : IntKind) (b : Int) (k : LV → Prop) : Prop :=
  match op with
  | .shl => (match decide (b < 0) with | true => False | false => k (.v (.int ka (ka.wrap (a * 2 ^ (min b.toNat ka.bits))))))
  | .shr => (match decide (b < 0) with | true => False | false => k (.v (.int ka (a.fdiv (2 ^ (min b.toNat ka.bits))))))
  | op =>
    match decide (ka = kb) with
    | false => False
    | true =>
      match op with
      | .add => k (.v (.int ka (ka.wrap (a + b))))
      | .sub => k (.v (.int ka (ka.wrap (a - b))))
      | .mul => k (.v (.int ka (ka.wrap (a * b))))
      | .quo => nzB b (k (.v (.int ka (ka.wrap (a.tdiv b)))))
      | .rem => nzB b (k (.v (.int ka (a.tmod b))))
      | .and => k (.v (.int ka (ka.wrap ((BitVec.ofInt ka.bits a &&& BitVec.ofInt ka.bits b).toNat : Int))))
      | .or => k (.v (.int ka (ka.wrap ((BitVec.ofInt ka.bits a ||| BitVec.ofInt ka.bits b).toNat : Int))))
      | .xor => k (.v (.int ka (ka.wrap ((BitVec.ofInt ka.bits a ^^^ BitVec.ofInt ka.bits b).toNat : Int))))
      | .eql => boolK ((a == b)) k
      | .neq => boolK ((a != b)) k
      | .lss => boolK ((decide (a < b))) k
      | .leq => boolK ((decide (a ≤ b))) k
      | .gtr => boolK ((decide (a > b))) k
      | .geq => boolK ((decide (a ≥ b))) k
      | _ => False

/-- Two floats: the bits of the result. -/
def fltArith (op : BinOp) (f : FloatKind) (a b : Nat) : Option Nat :=
  match op with
  | .add => f.format.add a b
  | .sub => f.format.sub a b
  | .mul => f.format.mul a b
  | .quo => f.format.div a b
  | _ => none
def fltK (op : BinOp) (f : FloatKind) (a b : Nat) (k : Nat → Prop) : Prop :=
  match fltArith op f a b with
  | some r => k r
  | none => False

/-- Are the cells (whole numbers) of two values the same? -/
def eqCells : List LV → List LV → (Bool → Prop) → Prop
  | [], [], k => k true
  | .v (.int .i64 a) :: r, .v (.int .i64 b) :: s, k => eqCells r s fun c => k ((a == b) && c)
  | _, _, _ => False

def binK (X : Ctx) (op : BinOp) (ty : Nat) (x y : LV) (k : LV → Prop) : Prop :=
  match x, y with
  | .v (.int ka a), .v (.int kb b) => intK op ka a kb b k
  | .v (.float ka a), .v (.float kb b) =>
    (match decide (ka = kb) with
     | false => False
     | true =>
       match op with
       | .add | .sub | .mul | .quo => fltK op ka a b fun r => k (.v (.float ka r))
       | .eql => boolK ((ka.format.order a b == some .eq)) k
       | .neq => boolK ((ka.format.order a b != some .eq)) k
       | .lss => boolK ((ka.format.order a b == some .lt)) k
       | .leq => boolK ((ka.format.order a b == some .lt || ka.format.order a b == some .eq)) k
       | .gtr => boolK ((ka.format.order a b == some .gt)) k
       | .geq => boolK ((ka.format.order a b == some .gt || ka.format.order a b == some .eq)) k
       | _ => False)
  | .v (.complex ka a b), .v (.complex kb c d) =>
    (match decide (ka = kb) with
     | false => False
     | true =>
       match op with
       | .add | .sub => fltK op ka a c fun r => fltK op ka b d fun s => k (.v (.complex ka r s))
       | .eql => boolK ((ka.format.order a c == some .eq && ka.format.order b d == some .eq)) k
       | .neq => boolK (!(ka.format.order a c == some .eq && ka.format.order b d == some .eq)) k
       | _ => False)
  | .agg xs, .agg ys =>
    tdK X ty fun d =>
    (match X.eq ty, d.isAgg, decide (xs.length = d.sz ∧ ys.length = d.sz) with
     | true, true, true =>
         (match op with
         | .eql => eqCells xs ys fun c => boolK (c) k
         | .neq => eqCells xs ys fun c => boolK (!c) k
         | _ => False)
     | _, _, _ => False)
  | _, _ => False

def unK (op : UnOp) (x : LV) (k : LV → Prop) : Prop :=
  match op, x with
  | .neg, .v (.int ka n) => k (.v (.int ka (ka.wrap (0 - n))))
  | .not, .v (.bool b) => k (.v (.bool !b))
  | .neg, .v (.float f b) => k (.v (.float f (Op.negFloat f b)))
  | .neg, .v (.complex f a b) => k (.v (.complex f (Op.negFloat f a) (Op.negFloat f b)))
  | _, _ => False

def convK (X : Ctx) (_src dst : Nat) (x : LV) (k : LV → Prop) : Prop :=
  tdK X dst fun d =>
    match d.desc, x with
    | .int ki, .v (.int _ n) => k (.v (.int ki (ki.wrap n)))
    | .float f, .v (.int _ n) => k (.v (.float f (f.nearest n)))
    | _, _ => False

/-- The address of element i of what is an array's address or a slice. -/
def idxAddrK (X : Ctx) (h : List Blk) (ty : Nat) (x : LV) (i : Int) (k : LV → Prop) : Prop :=
  tdK X ty fun d =>
    match d.desc, x with
    | .array len el, .ptr id j sub => tdK X el fun de =>
      idxB i (len : Int) (k (.ptr id j (sub + i.toNat * de.sz)))
    | .array len el, .eptr e sub => tdK X el fun de =>
      idxB i (len : Int) (k (.eptr e (sub + i.toNat * de.sz)))
    | .slice el, .rd es => tdK X el fun de =>
      nnB i (eltK es i.toNat fun e => lenB e.length de.sz (k (.eptr e 0)))
    | .slice el, .sl id off len _ => tdK X el fun de => getK h id fun b =>
      (match b with
       | .row sz _ _ =>
         idxB i (len : Int) (lenB sz de.sz (k (.ptr id (off + i.toNat) 0)))
       | _ => False)
    | _, _ => False

def idxK (X : Ctx) (ty : Nat) (x : LV) (i : Int) (k : LV → Prop) : Prop :=
  tdK X ty fun d =>
    match d.desc, x with
    | .array len el, .agg cs => tdK X el fun de =>
      idxB i (len : Int) (partK de cs (i.toNat * de.sz) k)
    | _, _ => False

/-- Field f of a struct type: where it lies, and its type. -/
def fieldK (X : Ctx) (ty f : Nat) (k : Nat → TD → Prop) : Prop :=
  tdK X ty fun d =>
    match d.desc with
    | .struct fs =>
      (match fs[f]? with
       | some fl => tdK X fl.type fun df => k fl.offset df
       | none => False)
    | _ => False

/-- Parts laid over cells. -/
def fillK (place : Nat → (Nat → Nat → Prop) → Prop) : List LV → List (Nat × LV) → (List LV → Prop) → Prop
  | cs, [], k => k cs
  | cs, (i, x) :: r, k => place i fun off sz => cellsK x fun ps =>
    match decide (ps.length = sz) with
    | true => spliceK cs off ps fun cs' => fillK place cs' r k
    | false => False

def placesK (X : Ctx) : List Field → (List (Nat × Nat) → Prop) → Prop
  | [], k => k []
  | f :: r, k => tdK X f.type fun df => placesK X r fun l => k ((f.offset, df.sz) :: l)

def buildK (X : Ctx) (ty : Nat) (parts : List (Nat × LV)) (k : LV → Prop) : Prop :=
  tdK X ty fun d =>
    match d.desc with
    | .struct fs => placesK X fs.toList fun l => fillK (fun i kk => getK l i fun p => kk p.1 p.2) (d.zero.map .v) parts fun cs => k (.agg cs)
    | .array _ el => tdK X el fun de => fillK (fun i kk => kk (i * de.sz) de.sz) (d.zero.map .v) parts fun cs => k (.agg cs)
    | _ => False

/-- Cells cut into elements of sz. -/
def chunkK (sz : Nat) : Nat → List LV → (List (List LV) → Prop) → Prop
  | 0, _, k => k []
  | n + 1, cs, k => takeK cs sz fun e => dropK cs sz fun r => chunkK sz n r fun es => k (e :: es)

def zerosK (z : List LV) : Nat → (List LV → Prop) → Prop
  | 0, k => k []
  | n + 1, k => zerosK z n fun r => appK z r k

def buildSliceK (X : Ctx) (h : List Blk) (ty len : Nat) (parts : List (Nat × LV)) (k : LV → List Blk → Prop) : Prop :=
  tdK X ty fun d =>
    match d.desc with
    | .slice el => tdK X el fun de =>
      (match decide (0 < de.sz ∧ len * de.sz ≤ 65536) with
       | false => False
       | true => zerosK (de.zero.map .v) len fun zs => fillK (fun i kk => kk (i * de.sz) de.sz) zs parts fun cs => cleanK cs fun cs =>
         chunkK de.sz len cs fun es => snocK h (.row de.sz true es) fun n h' => k (.sl n 0 len (some len)) h')
    | _ => False

/-- xs[lo:hi:mx]. -/
def boundK (len : Nat) (x : Option LV) (dflt : Nat) (k : Nat → Prop) : Prop :=
  match x with
  | none => k dflt
  | some (.v (.int _ i)) =>
    leB i (len : Int) (k i.toNat)
  | some _ => False

def sliceK (h : List Blk) (sz : Nat) (x : LV) (lo hi mx : Option LV) (k : LV → Prop) : Prop :=
  match x with
  | .rd es => boundK es.length mx es.length fun m => boundK m hi es.length fun u => boundK u lo 0 fun l => (∀ e ∈ es, e.length = sz) ∧ k (.rd ((es.drop l).take (u - l)))
  | .v (.slice none 0 0) => boundK 0 mx 0 fun m => boundK m hi 0 fun u => boundK u lo 0 fun _ => k (.rd [])
  | .sl id off len cap => getK h id fun b => boundK len mx len fun m => boundK m hi len fun u => boundK u lo 0 fun l =>
    (match b with
     | .row sz' _ _ => lenB sz' sz (pickB (decide (u - l = 0)) (k (.rd []))
         (k (.sl id (off + l) (u - l) (match mx with | some _ => some (m - l) | none => cap.map (· - l)))))
     | _ => False)
  | _ => False

/-- The elements of a slice, cells of its own copied (what is read of them). -/
def elemsK (h : List Blk) (x : LV) (k : List (List LV) → Prop) : Prop :=
  match x with
  | .rd es => k es
  | .v (.slice none 0 0) => k []
  | .sl id off len _ => getK h id fun b =>
    (match b with
     | .row _ _ es => (off + len ≤ es.length) ∧ k ((es.drop off).take len)
     | _ => False)
  | _ => False

/-- append(s, x...): sz: an element's cells; by: its bytes. -/
def appendK (h : List Blk) (sz byt : Nat) (s x : LV) (k : LV → List Blk → Prop) : Prop :=
  elemsK h x fun ns =>
    match s with
    | .v (.slice none 0 0) => (ns.length * byt ≤ 140737488355328) ∧ (∀ e ∈ ns, e.length = sz) ∧
        (match ns with
         | [] => k (.v (.slice none 0 0)) h
         | _ :: _ => snocK h (.row sz false ns) fun n h' => k (.sl n 0 ns.length none) h')
    | .sl id 0 len none => getK h id fun b =>
      (match b with
       | .row sz' false es => (sz' = sz) ∧ (es.length = len) ∧ ((len + ns.length) * byt ≤ 140737488355328) ∧ (∀ e ∈ ns, e.length = sz) ∧
          (setK h id .dead fun h1 => snocK h1 (.row sz false (es ++ ns)) fun n h' => k (.sl n 0 (len + ns.length) none) h')
       | _ => False)
    | .sl id 0 len (some c) => getK h id fun b =>
      (match b with
       | .row sz' ex es => (sz' = sz) ∧ (len + ns.length ≤ c) ∧ (c ≤ es.length) ∧ (∀ e ∈ ns, e.length = sz) ∧
          ∃ (es' : List (List LV)) (n : Nat), es' = es.take len ++ ns ++ es.drop (len + ns.length) ∧ n = len + ns.length ∧ (setK h id (.row sz ex es') fun h' => k (.sl id 0 n (some c)) h')
       | _ => False)
    | _ => False

/-- copy(s, x), where s is as long as x. -/
def copyK (h : List Blk) (sz : Nat) (s x : LV) (k : LV → List Blk → Prop) : Prop :=
  elemsK h x fun ns =>
    match s with
    | .sl id 0 len _ => getK h id fun b =>
      (match b with
       | .row sz' ex es => (sz' = sz) ∧ (ns.length = len) ∧ (len ≤ es.length) ∧ (∀ e ∈ ns, e.length = sz) ∧
          ∃ es' : List (List LV), es' = ns ++ es.drop len ∧ (setK h id (.row sz ex es') fun h' => k (.v (.int .i64 (len : Int))) h')
       | _ => False)
    | _ => False

def lenK (X : Ctx) (h : List Blk) (ty : Nat) (x : LV) (k : LV → Prop) : Prop :=
  tdK X ty fun d =>
    match d.desc, x with
    | .array n _, _ => k (.v (.int .i64 (n : Int)))
    | .slice _, .rd es => k (.v (.int .i64 (es.length : Int)))
    | .slice _, .sl _ _ len _ => k (.v (.int .i64 (len : Int)))
    | .slice _, .v (.slice none 0 0) => k (.v (.int .i64 0))
    | .map _ _, .mp id => getK h id fun b =>
      (match b with
       | .map _ _ m => k (.v (.int .i64 (m.length : Int)))
       | _ => False)
    | _, _ => False

/-- The whole numbers of a key. -/
def keyK (x : LV) (k : List Int → Prop) : Prop :=
  match x with
  | .v (.int .i64 n) => k [n]
  | .agg cs => go cs k
  | _ => False
  where
  go : List LV → (List Int → Prop) → Prop
    | [], k => k []
    | .v (.int .i64 n) :: r, k => go r fun ns => k (n :: ns)
    | _ :: _, _ => False

def isAggL : LV → Bool
  | .agg _ => true
  | _ => false

/-- May such keys be of this type? -/
def keyTy (d : TD) (ag : Bool) : Bool :=
  match d.desc with
  | .int .i64 => !ag
  | .struct _ | .array _ _ => ag
  | _ => false

def findE (key : List Int) : List (List Int × LV) → Option LV
  | [] => none
  | (k, v) :: r => bif k == key then some v else findE key r
/-- An entry written: the first with this key, or a new one at the end. -/
def putE (key : List Int) (x : LV) : List (List Int × LV) → List (List Int × LV)
  | [] => [(key, x)]
  | (k, v) :: r => bif k == key then (key, x) :: r else (k, v) :: putE key x r

def makeSliceK (X : Ctx) (h : List Blk) (ty : Nat) (lv cv : LV) (k : LV → List Blk → Prop) : Prop :=
  tdK X ty fun d =>
    match lv, cv with
    | .v (.int _ a), .v (.int _ b) =>
      (match d.desc with
       | .slice el => tdK X el fun de =>
         leB a b (match decide (0 < de.sz) with
          | true => (b * de.bytes ≤ 140737488355328) ∧ (b < 9223372036854775808) ∧
              snocK h (.row de.sz true (List.replicate b.toNat (de.zero.map .v))) fun n h' => k (.sl n 0 a.toNat (some b.toNat)) h'
          | false => False)
       | _ => False)
    | _, _ => False

/-- clear(s): the elements in front of it stay told. -/
def clearK (h : List Blk) (sz : Nat) (x : LV) (k : List Blk → Prop) : Prop :=
  match x with
  | .rd [] => k h
  | .v (.slice none 0 0) => k h
  | .sl id off _ _ => getK h id fun b =>
    (match b with
     | .row sz' _ es => lenB sz' sz (setK h id (.row sz false (es.take off)) k)
     | _ => False)
  | _ => False

def builtinK (X : Ctx) (h : List Blk) (b : Builtin) (args : List LV) (tys : List TypeId) (k : LV → List Blk → Prop) : Prop :=
  match b with
  | .append =>
    (match args, tys with
     | [s, x], [ts, tx] => tdK X ts fun d =>
       (match d.desc, decide (tx = ts) with
        | .slice el, true => tdK X el fun de => (match decide (0 < de.sz ∧ 0 < de.bytes) with | true => appendK h de.sz de.bytes s x k | false => False)
        | _, _ => False)
     | _, _ => False)
  | .len =>
    (match args, tys with
     | [x], [ty] => lenK X h ty x fun v => k v h
     | _, _ => False)
  | .real =>
    (match args with
     | [.v (.complex f a _)] => k (.v (.float f a)) h
     | _ => False)
  | .imag =>
    (match args with
     | [.v (.complex f _ b)] => k (.v (.float f b)) h
     | _ => False)
  | .complex =>
    (match args with
     | [.v (.float f a), .v (.float g b)] => (match decide (f = g) with | true => k (.v (.complex f a b)) h | false => False)
     | _ => False)
  | .clear =>
    (match args, tys with
     | [x], [ty] => tdK X ty fun d =>
       (match d.desc with
        | .slice el => tdK X el fun de => clearK h de.sz x fun h' => k (.v undefV) h'
        | _ => False)
     | _, _ => False)
  | .copy =>
    (match args, tys with
     | [s, x], [ts, tx] => tdK X ts fun d =>
       (match d.desc, decide (tx = ts) with
        | .slice el, true => tdK X el fun de => (match decide (0 < de.sz) with | true => copyK h de.sz s x k | false => False)
        | _, _ => False)
     | _, _ => False)
  | _ => False

/-- What an operation yields (of a store: nothing), and the heap behind it. -/
def opVal (X : Ctx) (t : List LV) (h : List Blk) (op : Op) (k : LV → List Blk → Prop) : Prop :=
  match op with
  | .move x | .assign x => opdK X t x fun v => k v h
  | .pick c a b => opdK X t c fun cv =>
    condB cv (opdK X t a fun v => k v h) (opdK X t b fun v => k v h)
  | .alloc e => tdK X e fun d => snocK h (.box (d.zero.map .v)) fun n h' => k (.ptr n 0 0) h'
  | .box e x => tdK X e fun d => opdK X t x fun v => cellsK v fun cs =>
    (match decide (cs.length = d.sz) with
     | true => snocK h (.box cs) fun n h' => k (.ptr n 0 0) h'
     | false => False)
  | .build ty ps => partsK ps.toList fun l => buildK X ty l fun v => k v h
  | .buildSlice ty len ps => partsK ps.toList fun l => buildSliceK X h ty len l k
  | .load ty a => opdK X t a fun p => loadK X h ty p fun v => k v h
  | .store ty a x => opdK X t a fun p => opdK X t x fun v => storeK X h ty p v fun h' => k (.v undefV) h'
  | .nilCheck x => opdK X t x fun v =>
    (match v with
     | .ptr .. | .eptr .. | .clo .. => k v h
     | _ => False)
  | .binOp op ty x y _ => opdK X t x fun a => opdK X t y fun b => binK X op ty a b fun v => k v h
  | .unOp op _ x => opdK X t x fun a => unK op a fun v => k v h
  | .convert src dst x => opdK X t x fun a => tdK X src fun _ => convK X src dst a fun v => k v h
  | .makeFunc (.func f) first caps => opdsK X t caps.toList fun vs => (match first.toList with | [] => k (.clo f vs) h | _ :: _ => False)
  | .makeMap ty none => tdK X ty fun d =>
    (match d.desc with
     | .map kt _ => tdK X kt fun dk => snocK h (.map dk.isAgg dk.sz []) fun n h' => k (.mp n) h'
     | _ => False)
  | .mapUpdate ty m ki x => opdK X t m fun mv => opdK X t ki fun kv => opdK X t x fun v => keyK kv fun key => tdK X ty fun d =>
    (match d.desc, mv with
     | .map kty _, .mp id => tdK X kty fun dk => getK h id fun b =>
       (match b with
        | .map ag kn ms => (match decide (kn = key.length ∧ ag = isAggL kv ∧ keyTy dk ag = true ∧ dk.sz = key.length), X.eq kty with
          | true, true => setK h id (.map ag kn (putE key v ms)) fun h' => k (.v undefV) h'
          | _, _ => False)
        | _ => False)
     | _, _ => False)
  | .lookup ty m ki ok => opdK X t m fun mv => opdK X t ki fun kv => keyK kv fun key => tdK X ty fun d =>
    (match d.desc, mv with
     | .map kt et, .mp id => tdK X kt fun dk => tdK X et fun de => getK h id fun b =>
       (match b, de.isAgg, de.zero with
        | .map ag kn ms, false, [z] => (match decide (kn = key.length ∧ ag = isAggL kv ∧ keyTy dk ag = true ∧ dk.sz = key.length), X.eq kt with
          | true, true =>
            (match ok with
             | true => optB (findE key ms) (fun v => k (.tup [v, .v (.bool true)]) h) (k (.tup [.v z, .v (.bool false)]) h)
             | false => optB (findE key ms) (fun v => k v h) (k (.v z) h))
          | _, _ => False)
        | _, _, _ => False)
     | _, _ => False)
  | .makeSlice ty l c => opdK X t l fun lv => opdK X t c fun cv => makeSliceK X h ty lv cv k
  | .slice ty x lo hi mx => opdK X t x fun v => optK lo fun l => optK hi fun u => optK mx fun m => tdK X ty fun d =>
    (match d.desc with
     | .slice el => tdK X el fun de => (m = none ∨ u ≠ none) ∧ sliceK h de.sz v l u m fun r => k r h
     | _ => False)
  | .fieldAddr ty x f => opdK X t x fun p => fieldK X ty f fun off df =>
    (match decide (0 < df.sz) with
     | false => False
     | true =>
       match p with
       | .ptr id i sub => k (.ptr id i (sub + off)) h
       | .eptr e sub => k (.eptr e (sub + off)) h
       | _ => False)
  | .field ty x f => opdK X t x fun v => fieldK X ty f fun off df =>
    (match v with
     | .agg cs => partK df cs off fun r => k r h
     | _ => False)
  | .indexAddr ty x i => opdK X t x fun p => opdK X t i fun iv =>
    (match iv with
     | .v (.int _ n) => idxAddrK X h ty p n fun v => k v h
     | _ => False)
  | .index ty x i => opdK X t x fun p => opdK X t i fun iv =>
    (match iv with
     | .v (.int _ n) => idxK X ty p n fun v => k v h
     | _ => False)
  | .extract x i => opdK X t x fun v =>
    (match v with
     | .tup vs => getK vs i fun r => k r h
     | _ => False)
  | .call c =>
    (match c.callee with
     | .value f => opdK X t f fun fv => opdsK X t c.args.toList fun args =>
       (match fv with
        | .clo g caps => X.C g (args ++ caps) h k
        | _ => False)
     | .builtin b => opdsK X t c.args.toList fun args => builtinK X h b args c.argTypes.toList k
     | _ => False)
  | _ => False
  where
  partsK : List (Nat × Operand) → (List (Nat × LV) → Prop) → Prop
    | [], k => k []
    | (i, o) :: r, k => opdK X t o fun v => partsK r fun l => k ((i, v) :: l)
  optK : Option Operand → (Option LV → Prop) → Prop
    | none, k => k none
    | some o, k => opdK X t o fun v => k (some v)

/-- A value into a slot. -/
def putK (t : List LV) (dst : Option Nat) (x : LV) (k : List LV → Prop) : Prop :=
  match dst with
  | none => k t
  | some d => setK t d x k

/-- Operations in their order. ops: the whole region (guards name their places in it). -/
def opers (X : Ctx) (ops : List Oper) : List Oper → St → (St → Prop) → Prop
  | [], s, k => k s
  | o :: r, ⟨t, h⟩, k =>
    match o.guard with
    | none => opVal X t h o.op fun v h' => putK t o.dst v fun t' => opers X ops r ⟨t', h'⟩ k
    | some (j, want) => getK ops j fun oj =>
      match oj.dst with
      | none => False
      | some d => getK t d fun g =>
        match g with
        | .v (.bool b) =>
          pickB (b == want) (opVal X t h o.op fun v h' => putK t o.dst v fun t' => opers X ops r ⟨t', h'⟩ k)
            (putK t o.dst (.v undefV) fun t' => opers X ops r ⟨t', h⟩ k)
        | .v (.tuple _) => putK t o.dst (.v undefV) fun t' => opers X ops r ⟨t', h⟩ k
        | _ => False
end E
end Go.Proofs.YtjhognibibmeiaaGreatDoor
