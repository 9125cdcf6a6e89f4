/-
  An evaluator of closed calls, for the kernel: blocks have names, spare room behind append is not known.
-/
import Derived.Test.YtopkigockpiggaaGreatEvTrie
import Derived.CallsIn
set_option linter.unusedVariables false
set_option linter.unusedSimpArgs false
namespace Go.Ev
abbrev An (R : Type) := Except Nat R
/-- what is known of a block. -/
inductive Blk where
  /-- n cells are known (each is d where t has none), esz of them an element; mu: it may be written; pl: nothing of it is frozen. -/
  | cells (n : Nat) (elem : TypeId) (esz : Nat) (mu pl : Bool) (d : Value) (t : T Value)
  | loop (state : LoopState) (pending : Option Code) (fn : FuncId) (ntm : Nat) (tmps : T Value) (ps : List Tmp) (assign body : Code) (defers : Nat)
  | deferred (opened : Bool)
  | map (es : List MapEntry) (clock : Nat)
  | iter (m : Option Nat) (since : Nat) (seen : List Nat) (stepped : Nat)
structure Hp where
  t : T Blk
  next : Nat
structure St where
  tm : T Value
  hp : Hp
  ntm : Nat
  fn : FuncId
  round : Option Nat
  defers : List Nat
/-- what a call is known to do with a heap: of the arguments x0, where the names begin with n0 and the blocks l0 lie, it gives v1, the names go on with n1, and the blocks l1 lie there (in the place of l0). -/
structure Rule where
  f : FuncId
  x0 : List Value
  n0 : Nat
  l0 : List (Nat × Blk)
  v1 : Value
  n1 : Nat
  l1 : List (Nat × Blk)
/-- what is looked up. -/
structure Tab where
  ty : T TypeInfo
  un : T TypeDesc
  fn : T Func
  ins : List FuncId
  plain : List TypeId
  memo : List (FuncId × List Nat × List Value)
  tell : List (FuncId × (List Value → Option Value))
  /-- maps.clone. -/
  ext : List FuncId
  rules : List Rule := []
noncomputable def TOP : Nat := 9223372036854775808
/-- an empty slice of which nothing else is known. -/
noncomputable def vague : Value := .slice (some ⟨0, 0, some 0⟩) 0 0
noncomputable def no {R : Type} (why : Nat) : An R := .error why
section
variable {R : Type}
noncomputable def fNI (n : Nat) (c : Nat → An R) : An R := c n
noncomputable def fN (n : Nat) (c : Nat → An R) : An R := Nat.rec (motive := fun _ => An R) (c 0) (fun m _ => c (Nat.succ m)) n
/-- a number, a truth value: reckoned to its end. -/
noncomputable def fV (v : Value) (c : Value → An R) : An R :=
  match v with
  | .int k (.ofNat m) => fN m fun m => c (.int k (.ofNat m))
  | .int k (.negSucc m) => fN m fun m => c (.int k (.negSucc m))
  | .bool true => c (.bool true)
  | .bool false => c (.bool false)
  | _ => no 1
/-- what a pure operation gives. -/
noncomputable def fS (s : Sem Value) (c : Value → An R) : An R := match s with | .pure v => fV v c | _ => no 2
/-- a list's spine. -/
noncomputable def fLI {α : Type} (l : List α) (c : List α → An R) : An R := c l
noncomputable def fL {α : Type} (l : List α) (c : List α → An R) : An R :=
  List.rec (motive := fun _ => (List α → An R) → An R) (fun c => c []) (fun a _ ih c => ih fun r => c (a :: r)) l c
noncomputable def isFlat : Value → Bool
  | .bool _ | .int _ _ | .float _ _ | .complex _ _ _ | .string _ | .pointer none | .slice none _ _ | .map none | .chan none | .nilFunc | .nilIface => true
  | .func (.func _) first captured => first.isEmpty && captured.isEmpty
  | .agg cs => cs.toList.all fun | .bool _ | .int _ _ | .string _ | .pointer none | .slice none _ _ | .map none | .nilFunc | .nilIface => true | _ => false
  | _ => false
noncomputable def isFlatI (v : Value) : Bool := isFlat v
noncomputable def isFlatF (v : Value) : Bool := @Value.casesOn (fun _ => Bool) v (fun _ => true) (fun _ _ => true) (fun _ _ => true) (fun _ _ _ => true) (fun _ => true)
  (fun a => @Option.rec Addr (fun _ => Bool) true (fun _ => false) a) (fun a _ _ => @Option.rec Addr (fun _ => Bool) true (fun _ => false) a) (fun a => @Option.rec Nat (fun _ => Bool) true (fun _ => false) a) (fun a => @Option.rec Nat (fun _ => Bool) true (fun _ => false) a)
  (fun f x y => isFlat (.func f x y)) true (fun _ _ => false) true (fun x => isFlat (.agg x)) (fun _ => false)
theorem isFlatF_eq (v : Value) : isFlatF v = isFlat v := by
  cases v with
  | pointer a => cases a <;> rfl
  | slice a => cases a <;> rfl
  | map a => cases a <;> rfl
  | chan a => cases a <;> rfl
  | _ => rfl
noncomputable def opd' (tm : T Value) (x : Operand) (c : Value → An R) : An R :=
  match x with
  | .tmp t => match tm.find t with | some v => c v | none => c undef
  | .const v => match isFlatF v with | true => c v | false => no 3
  | .func f => c (.func (.func f) #[] #[])
  | .global _ => no 4
noncomputable def opd (tm : T Value) (x : Operand) (c : Value → An R) : An R :=
  Operand.rec (motive := fun _ => T Value → (Value → An R) → An R) (fun t tm c => Option.rec (motive := fun _ => An R) (c undef) c (tm.find t)) (fun v _ c => Bool.rec (motive := fun _ => An R) (no 3) (c v) (isFlatF v))
    (fun _ _ _ => no 4) (fun f _ c => c (.func (.func f) #[] #[])) x tm c
theorem opd_eq (tm : T Value) (x : Operand) (c : Value → An R) : opd tm x c = opd' tm x c := by
  cases x with
  | tmp t => unfold opd opd'; simp only; cases tm.find t <;> rfl
  | const v => unfold opd opd'; simp only; cases isFlatF v <;> rfl
  | global g => rfl
  | func f => rfl
noncomputable def opdsI (tm : T Value) (xs : List Operand) (c : List Value → An R) : An R :=
  match xs with
  | [] => c []
  | x :: r => opd tm x fun v => opdsI tm r fun vs => c (v :: vs)
noncomputable def opds (tm : T Value) (xs : List Operand) (c : List Value → An R) : An R :=
  List.rec (motive := fun _ => (List Value → An R) → An R) (fun c => c []) (fun x _ ih c => opd tm x fun v => ih fun vs => c (v :: vs)) xs c
variable (B : Tab)
noncomputable def infoI (t : TypeId) (c : TypeInfo → An R) : An R := match B.ty.find t with | some i => c i | none => no 5
noncomputable def info (t : TypeId) (c : TypeInfo → An R) : An R := Option.rec (motive := fun _ => An R) (no 5) c (B.ty.find t)
noncomputable def undI (t : TypeId) (c : TypeDesc → An R) : An R := match B.un.find t with | some i => c i | none => no 7
noncomputable def und (t : TypeId) (c : TypeDesc → An R) : An R := Option.rec (motive := fun _ => An R) (no 7) c (B.un.find t)
noncomputable def isAggI : TypeDesc → Bool | .struct _ | .array _ _ => true | _ => false
noncomputable def isAggD : TypeDesc → Bool := @TypeDesc.rec (fun _ => Bool) false false (fun _ => false) (fun _ => false) (fun _ => false) false false (fun _ => false) (fun _ => false) (fun _ _ => true) (fun _ _ => false) (fun _ _ => false) (fun _ => true) (fun _ _ _ => false) (fun _ => false) (fun _ => false) (fun _ _ => false)
noncomputable def blkGet (d : Value) (t : T Value) (i : Nat) : Value := match t.find i with | some v => v | none => d
/-- m cells from i on. -/
noncomputable def cellsKI (d : Value) (t : T Value) : (m i : Nat) → (List Value → An R) → An R
  | 0, _, c => c []
  | m + 1, i, c => match t.find i with
    | some v => cellsKI d t m (Nat.succ i) fun l => c (v :: l)
    | none => cellsKI d t m (Nat.succ i) fun l => c (d :: l)
noncomputable def cellsK (d : Value) (t : T Value) (m i : Nat) (c : List Value → An R) : An R :=
  Nat.rec (motive := fun _ => Nat → (List Value → An R) → An R) (fun _ c => c []) (fun _ ih i c => Option.rec (motive := fun _ => An R) (ih (Nat.succ i) fun l => c (d :: l)) (fun v => ih (Nat.succ i) fun l => c (v :: l)) (t.find i)) m i c
noncomputable def cellOk : Value → Bool | .agg _ | .tuple _ => false | _ => true
noncomputable def putCellsI : List Value → (i : Nat) → T Value → (T Value → An R) → An R
  | [], _, t, c => c t
  | v :: r, i, t, c => match cellOk v with
    | true => t.putK (some v) i fun t => putCellsI r (Nat.succ i) t c
    | false => no 8
noncomputable def putCells (l : List Value) (i : Nat) (t : T Value) (c : T Value → An R) : An R :=
  List.rec (motive := fun _ => Nat → T Value → (T Value → An R) → An R) (fun _ t c => c t) (fun v _ ih i t c => Bool.rec (motive := fun _ => An R) (no 8) (t.putK (some v) i fun t => ih (Nat.succ i) t c) (cellOk v)) l i t c
noncomputable def loadAt (t : TypeId) (a : Value) (h : Hp) (c : Value → An R) : An R :=
  match a with
  | .pointer (some ⟨k, off, none⟩) => match h.t.find k with
    | some (.cells n _ _ _ _ d tr) => und B t fun ds => match isAggD ds with
      | true => info B t fun i => match Nat.ble (Nat.add off i.size) n with
        | true => cellsK d tr i.size off fun l => c (.agg ⟨l⟩)
        | false => no 9
      | false => match Nat.blt off n with
        | true => match tr.find off with | some v => c v | none => c d
        | false => no 10
    | _ => no 11
  | _ => no 12
noncomputable def cellsOf : Value → List Value | .agg ⟨l⟩ => l | v => [v]
/-- writes cells into a block. -/
noncomputable def writeAt (k off : Nat) (vs : List Value) (h : Hp) (c : Hp → An R) : An R :=
  match h.t.find k with
  | some (.cells n e z true pl d tr) => match Nat.ble (Nat.add off vs.length) n with
    | true => putCells vs off tr fun tr => h.t.putK (some (.cells n e z true pl d tr)) k fun t => c ⟨t, h.next⟩
    | false => no 13
  | _ => no 14
noncomputable def storeAt (t : TypeId) (a x : Value) (h : Hp) (c : Hp → An R) : An R :=
  match a with
  | .pointer (some ⟨k, off, none⟩) => info B t fun i => match Nat.beq i.size (cellsOf x).length with
    | true => writeAt k off (cellsOf x) h c
    | false => no 15
  | _ => no 16
/-- a new block. -/
noncomputable def newBlk (b : Blk) (h : Hp) (c : Nat → Hp → An R) : An R :=
  h.t.putK (some b) h.next fun t => fN (Nat.succ h.next) fun n => c h.next ⟨t, n⟩
noncomputable def newCells (elem : TypeId) (esz : Nat) (vs : List Value) (h : Hp) (c : Nat → Hp → An R) : An R :=
  putCells vs 0 .nil fun tr => newBlk (.cells vs.length elem esz true true undef tr) h c
noncomputable def zeroOf (t : TypeId) (c : Value → An R) : An R := info B t fun i => match i.zero with | some v => (match isFlat v with | true => c v | false => no 17) | none => no 18
/-- cells that are all alike. -/
noncomputable def newRowOf (elem : TypeId) (esz n : Nat) (d : Value) (h : Hp) (c : Nat → Hp → An R) : An R := newBlk (.cells n elem esz true true d .nil) h c
noncomputable def asN (v : Value) (c : Nat → An R) : An R := match v with | .int _ (.ofNat n) => c n | _ => no 19
noncomputable def fieldOff (s : TypeId) (f : Nat) (c : Field → Nat → An R) : An R :=
  und B s fun | .struct fs => (match fs[f]? with | some fd => info B fd.type fun i => fN i.size fun z => c fd z | none => no 20) | _ => no 21
noncomputable def addOff (k off d : Nat) (c : Value → An R) : An R := fN (Nat.add off d) fun o => c (.pointer (some ⟨k, o, none⟩))
noncomputable def indexAddrK (t : TypeId) (x ix : Value) (c : Value → An R) : An R :=
  asN ix fun i => und B t fun
    | .array len elem => match x with
      | .pointer (some ⟨k, off, none⟩) => (match Nat.blt i len with
        | true => info B elem fun e => addOff k off (Nat.mul i e.size) c
        | false => no 22)
      | _ => no 23
    | .slice elem => match x with
      | .slice (some ⟨k, off, none⟩) len _ => (match Nat.blt i len with
        | true => info B elem fun e => addOff k off (Nat.mul i e.size) c
        | false => no 24)
      | _ => no 25
    | _ => no 26
noncomputable def partK (t : TypeId) (l : List Value) (off : Nat) (c : Value → An R) : An R :=
  und B t fun d => match isAggD d with
    | true => info B t fun i => match Nat.ble (Nat.add off i.size) l.length with
      | true => fL ((l.drop off).take i.size) fun l => c (.agg ⟨l⟩)
      | false => no 27
    | false => match l[off]? with | some v => c v | none => no 28
noncomputable def indexK (t : TypeId) (x ix : Value) (c : Value → An R) : An R :=
  asN ix fun i => und B t fun
    | .array len elem => match x with
      | .agg ⟨l⟩ => (match Nat.blt i len with
        | true => info B elem fun e => partK B elem l (Nat.mul i e.size) c
        | false => no 29)
      | _ => no 30
    | .string => match x with
      | .string ⟨⟨l⟩⟩ => (match l[i]? with | some b => fN b.toNat fun n => c (.int .u8 (.ofNat n)) | none => no 31)
      | _ => no 32
    | _ => no 33
noncomputable def strCmp (op : BinOp) (x y : List UInt8) (c : Value → An R) : An R :=
  match op with
  | .eql => fV (.bool (x == y)) c
  | .neq => fV (.bool !(x == y)) c
  | .lss => fV (.bool (Op.bytesLess x y)) c
  | .leq => fV (.bool (Op.bytesLess x y || x == y)) c
  | .gtr => fV (.bool !(Op.bytesLess x y || x == y)) c
  | .geq => fV (.bool !(Op.bytesLess x y)) c
  | _ => no 34
/-- '==' of two values of a type that are no numbers and no strings. -/
noncomputable def sameV (d : TypeDesc) (h : Hp) (x y : Value) (c : Bool → An R) : An R :=
  match d with
  | .bool => (match x, y with | .bool a, .bool b => c (a == b) | _, _ => no 34)
  | .pointer e => match x with
    | .pointer none => (match y with | .pointer b => c b.isNone | _ => no 35)
    | .pointer (some ⟨k, o, none⟩) => (match y with
      | .pointer none => c false
      | .pointer (some ⟨j, p, none⟩) => info B e fun i => (match i.size with
        | Nat.succ _ => (match h.t.find k, h.t.find j with
          | some (.cells _ _ _ _ true _ _), some (.cells _ _ _ _ true _ _) => c (Nat.beq k j && Nat.beq o p)
          | _, _ => no 35)
        | _ => no 35)
      | _ => no 35)
    | _ => no 35
  | .slice _ => match x, y with
    | .slice none _ _, .slice none _ _ => c true
    | .slice none _ _, .slice (some ⟨_, _, none⟩) _ _ => c false
    | .slice (some ⟨_, _, none⟩) _ _, .slice none _ _ => c false
    | _, _ => no 36
  | .map _ _ => match x, y with
    | .map none, .map b => c b.isNone
    | .map (some _), .map none => c false
    | _, _ => no 36
  | .func _ _ _ => match x, y with
    | .nilFunc, .nilFunc => c true
    | .nilFunc, .func _ _ _ => c false
    | .func _ _ _, .nilFunc => c false
    | _, _ => no 36
  | .interface _ => match x, y with
    | .nilIface, .iface _ _ => c false
    | .iface _ _, .nilIface => c false
    | _, _ => no 36
  | _ => no 37
/-- cells that are numbers of a kind: alike? -/
noncomputable def sameInts (kk : IntKind) : List Value → List Value → Option Bool
  | [], [] => some true
  | .int k a :: x, .int j b :: y => match sameInts kk x y with
    | some r => if k = kk ∧ j = kk then some (a == b && r) else none
    | none => none
  | _, _ => none
/-- the fields of two structs, one by one: alike? nest: a field that is a struct. -/
noncomputable def sameFldsG (nest : Field → Array Field → List Value → List Value → (Bool → An R) → An R) (l m : List Value) : List Field → (Bool → An R) → An R
  | [], c => c true
  | f :: r, c => (match f.name == "_" with
    | true => no 387
    | false => und B f.type fun
      | .int kk => (match l[f.offset]?, m[f.offset]? with
        | some (.int k a), some (.int j b) => (match decide (k = kk ∧ j = kk) with | true => (match a == b with | true => sameFldsG nest l m r c | false => c false) | false => no 388)
        | _, _ => no 388)
      | .string => (match l[f.offset]?, m[f.offset]? with
        | some (.string ⟨⟨a⟩⟩), some (.string ⟨⟨b⟩⟩) => (match a == b with | true => sameFldsG nest l m r c | false => c false)
        | _, _ => no 388)
      | .bool => (match l[f.offset]?, m[f.offset]? with
        | some (.bool a), some (.bool b) => (match a == b with | true => sameFldsG nest l m r c | false => c false)
        | _, _ => no 388)
      | .struct gs => nest f gs l m fun b => (match b with | true => sameFldsG nest l m r c | false => c false)
      | _ => no 389)
noncomputable def sameNestG (nest : Field → Array Field → List Value → List Value → (Bool → An R) → An R) (f : Field) (gs : Array Field) (l m : List Value) (c : Bool → An R) : An R :=
  match B.plain.contains f.type with
  | true => partK B f.type l f.offset fun a => partK B f.type m f.offset fun b => (match a, b with
    | .agg ⟨x⟩, .agg ⟨y⟩ => sameFldsG B nest x y gs.toList c
    | _, _ => no 389)
  | false => no 389
noncomputable def sameNest (f : Field) (gs : Array Field) (l m : List Value) (c : Bool → An R) : An R := sameNestG B (sameNestG B fun _ _ _ _ _ => no 389) f gs l m c
noncomputable def sameFlds (l m : List Value) (fs : List Field) (c : Bool → An R) : An R := sameFldsG B (sameNest B) l m fs c
/-- a kind's number, a bound of it. -/
noncomputable def kindN : IntKind → Nat | .i8 => 0 | .i16 => 1 | .i32 => 2 | .i64 => 3 | .u8 => 4 | .u16 => 5 | .u32 => 6 | .u64 => 7
noncomputable def kindLim : IntKind → Nat | .i64 => 9223372036854775808 | .u8 => 256 | .u16 => 65536 | .u32 => 4294967296 | .u64 => 18446744073709551616 | .i32 => 2147483648 | _ => 0
noncomputable def ifB (b : Bool) (c : Value → An R) : An R := match b with | true => c (.bool true) | false => c (.bool false)
/-- two numbers of a kind, none below 0: reckoned at once. -/
noncomputable def binNatK (op : BinOp) (k : IntKind) (m n : Nat) (c : Value → An R) (slow : Unit → An R) : An R :=
  match op with
  | .eql => ifB (Nat.beq m n) c
  | .neq => (match Nat.beq m n with | true => c (.bool false) | false => c (.bool true))
  | .lss => ifB (Nat.blt m n) c
  | .leq => ifB (Nat.ble m n) c
  | .gtr => ifB (Nat.blt n m) c
  | .geq => ifB (Nat.ble n m) c
  | .add => fN (Nat.add m n) fun s => (match Nat.blt s (kindLim k) with | true => c (.int k (.ofNat s)) | false => slow ())
  | .sub => (match Nat.ble n m, Nat.blt m (kindLim k) with | true, true => fN (Nat.sub m n) fun s => c (.int k (.ofNat s)) | _, _ => slow ())
  | .mul => fN (Nat.mul m n) fun s => (match Nat.blt s (kindLim k) with | true => c (.int k (.ofNat s)) | false => slow ())
  | .and => (match Nat.blt m (kindLim k), Nat.blt n (kindLim k) with | true, true => fN (Nat.land m n) fun s => c (.int k (.ofNat s)) | _, _ => slow ())
  | .or => (match Nat.blt m (kindLim k), Nat.blt n (kindLim k) with | true, true => fN (Nat.lor m n) fun s => c (.int k (.ofNat s)) | _, _ => slow ())
  | .xor => (match Nat.blt m (kindLim k), Nat.blt n (kindLim k) with | true, true => fN (Nat.xor m n) fun s => c (.int k (.ofNat s)) | _, _ => slow ())
  | .shr => (match Nat.blt m (kindLim k), Nat.blt n 64 with | true, true => fN (Nat.shiftRight m n) fun s => c (.int k (.ofNat s)) | _, _ => slow ())
  | _ => slow ()
/-- a number becomes one of another kind. -/
noncomputable def convNatK (k : IntKind) (m : Nat) (c : Value → An R) (slow : Unit → An R) : An R :=
  match Nat.blt m (kindLim k) with
  | true => c (.int k (.ofNat m))
  | false => (match k with
    | .u8 => fN (Nat.mod m 256) fun s => c (.int .u8 (.ofNat s))
    | _ => slow ())
noncomputable def convIntK (k : IntKind) (n : Int) (c : Value → An R) : An R :=
  match n with
  | .ofNat m => convNatK k m c fun _ => fV (.int k (k.wrap n)) c
  | _ => fV (.int k (k.wrap n)) c
noncomputable def binIntK (op : BinOp) (t : TypeId) (k : IntKind) (a : Int) (j : IntKind) (b : Int) (c : Value → An R) : An R :=
  match a with
  | .ofNat m => (match b with
    | .ofNat n => (match Nat.beq (kindN k) (kindN j) with
      | true => binNatK op k m n c fun _ => fS (Go.binOp op t (.int k a) (.int j b)) c
      | false => (match op with
        | .shr => binNatK op k m n c fun _ => fS (Go.binOp op t (.int k a) (.int j b)) c
        | _ => fS (Go.binOp op t (.int k a) (.int j b)) c))
    | _ => fS (Go.binOp op t (.int k a) (.int j b)) c)
  | _ => fS (Go.binOp op t (.int k a) (.int j b)) c
noncomputable def binK (op : BinOp) (t : TypeId) (x y : Value) (h : Hp) (c : Value → An R) : An R :=
  match x, y with
  | .int k a, .int j b => binIntK op t k a j b c
  | .string ⟨⟨l⟩⟩, .string ⟨⟨m⟩⟩ => match op with
    | .add => (match Nat.blt (Nat.add l.length m.length) 1152921504606846976 with | true => fL (l ++ m) fun l => c (.string ⟨⟨l⟩⟩) | false => no 381)
    | _ => strCmp op l m c
  | .agg ⟨l⟩, .agg ⟨m⟩ => (match B.plain.contains t with
    | true => und B t fun
      | .array n e => info B e fun i => und B e fun
        | .int kk => (match Nat.beq l.length n, Nat.beq i.size 1, sameInts kk l m with
          | true, true, some b => (match op with | .eql => fV (.bool b) c | .neq => fV (.bool !b) c | _ => no 382)
          | _, _, _ => no 383)
        | _ => no 384
      | .struct fs => sameFlds B l m fs.toList fun b => (match op with | .eql => fV (.bool b) c | .neq => fV (.bool !b) c | _ => no 382)
      | _ => no 385
    | false => no (Nat.add 386000 t))
  | _, _ => match op with
    | .eql => und B t fun d => sameV B d h x y fun b => fV (.bool b) c
    | .neq => und B t fun d => sameV B d h x y fun b => fV (.bool !b) c
    | _ => no 39
/-- a slice's first n elements' cells. -/
noncomputable def firstK (size n : Nat) (x : Value) (h : Hp) (c : List Value → An R) : An R :=
  match x with
  | .slice (some ⟨k, off, none⟩) _ _ => match Nat.beq n 0 with
    | true => c []
    | false => match h.t.find k with
      | some (.cells m _ _ _ _ d tr) => match Nat.ble (Nat.add off (Nat.mul n size)) m with
        | true => cellsK d tr (Nat.mul n size) off c
        | false => no 40
      | _ => no 41
  | .slice none _ _ => match Nat.beq n 0 with | true => c [] | false => no 42
  | .slice (some ⟨0, 0, some 0⟩) _ _ => match Nat.beq n 0 with | true => c [] | false => no 43
  | .string ⟨⟨l⟩⟩ => fL ((l.take n).map fun b => .int .u8 (.ofNat b.toNat)) c
  | _ => no 44
noncomputable def toBytes : List Value → (List UInt8 → An R) → An R
  | [], c => c []
  | .int .u8 (.ofNat n) :: r, c => toBytes r fun l => c (UInt8.ofNat n :: l)
  | _, _ => no 45
noncomputable def bytesStr (x : Value) (h : Hp) (c : Value → An R) : An R :=
  match x with
  | .slice none _ _ => c (.string ⟨⟨[]⟩⟩)
  | .slice (some _) len _ => firstK 1 len x h fun l => toBytes l fun b => c (.string ⟨⟨b⟩⟩)
  | _ => no 46
noncomputable def convK (src dst : TypeId) (x : Value) (h : Hp) (c : Value → Hp → An R) : An R :=
  und B src fun s => und B dst fun d => match s, d, x with
    | _, .int k, .int _ n => convIntK k n fun v => c v h
    | .string, .string, .string _ => c x h
    | .slice e, .string, x => und B e fun | .int .u8 => bytesStr x h fun v => c v h | _ => no 47
    | .string, .slice e, .string ⟨⟨l⟩⟩ => und B e fun
      | .int .u8 => (match Nat.ble l.length 1099511627776 with
        | true => fL (l.map fun b => Value.int .u8 (.ofNat b.toNat)) fun vs => putCells vs 0 .nil fun tr => fN l.length fun n => newBlk (.cells n e 1 true false undef tr) h fun k h => c (.slice (some ⟨k, 0, none⟩) n TOP) h
        | false => no 48)
      | _ => no 48
    | .slice _, .slice e, .slice (some ⟨k, _, none⟩) _ _ => (match Nat.beq src dst with
      | true => und B e fun
        | .int .u8 => (match h.t.find k with
          | some (.cells n e z true _ d tr) => h.t.putK (some (.cells n e z true false d tr)) k fun t => c x ⟨t, h.next⟩
          | _ => no 49)
        | _ => no 49
      | false => no 49)
    | _, _, _ => no (Nat.add 490000000 (Nat.add (Nat.mul src 1000) dst))
/-- a slice's bounds: those that are given. -/
noncomputable def boundK (x : Option Value) (dflt top : Nat) (c : Nat → An R) : An R :=
  match x with
  | none => c dflt
  | some v => asN v fun i => match Nat.ble i top with | true => c i | false => no 50
noncomputable def boundsK (len cap : Nat) (lo hi mx : Option Value) (c : Nat → Nat → Nat → An R) : An R :=
  match hi, mx with
  | none, some _ => no 50
  | _, _ => boundK mx cap cap fun m => boundK hi len m fun h => boundK lo 0 h fun l => c l h m
noncomputable def opdO (tm : T Value) (x : Option Operand) (c : Option Value → An R) : An R := match x with | none => c none | some x => opd tm x fun v => c (some v)
noncomputable def cutK (k off size l h m : Nat) (c : Value → An R) : An R :=
  fN (if m = l then off else Nat.add off (Nat.mul l size)) fun o => fN (Nat.sub h l) fun n => fN (Nat.sub m l) fun m => c (.slice (some ⟨k, o, none⟩) n m)
noncomputable def sliceK (t : TypeId) (x : Value) (lo hi mx : Option Value) (c : Value → An R) : An R :=
  und B t fun
    | .array n elem => match x with
      | .pointer (some ⟨k, off, none⟩) => (match Nat.blt n 4611686018427387904 with
        | true => boundsK n n lo hi mx fun l h m => info B elem fun e => cutK k off e.size l h m c
        | false => no 51)
      | _ => no 51
    | .string => match x, mx with
      | .string ⟨⟨s⟩⟩, none => boundsK s.length s.length lo hi none fun l h _ => fL ((s.take h).drop l) fun s => c (.string ⟨⟨s⟩⟩)
      | _, _ => no 52
    | .slice elem => match x with
      | .slice none 0 0 => boundsK 0 0 lo hi mx fun _ _ _ => info B elem fun _ => c (.slice none 0 0)
      | .slice (some ⟨k, off, none⟩) len cap => info B elem fun e => (match Nat.blt cap 4611686018427387904 with
        | true => boundsK len cap lo hi mx fun l h m => cutK k off e.size l h m c
        | false => match mx with
          | none => boundsK len len lo hi none fun l h _ => (match Nat.beq l len with
            | true => (match Nat.beq l 0 with | true => c x | false => c vague)
            | false => (match Nat.ble (Nat.add 4611686018427387904 l) cap with
              | true => fN (Nat.add off (Nat.mul l e.size)) fun o => fN (Nat.sub h l) fun n => fN (Nat.sub cap l) fun m => c (.slice (some ⟨k, o, none⟩) n m)
              | false => no 53))
          | some mv => (match Nat.blt len 4611686018427387904 with
            | true => boundsK len len lo hi (some mv) fun l h m => cutK k off e.size l h m c
            | false => no 53))
      | _ => no 54
    | _ => no 55
noncomputable def lenK (x : Value) (t : TypeId) (h : Hp) (c : Value → An R) : An R :=
  und B t fun
    | .string => (match x with | .string ⟨⟨l⟩⟩ => fN l.length fun n => c (.int .i64 (.ofNat n)) | _ => no 56)
    | .array n _ => c (.int .i64 (.ofNat n))
    | .slice _ => (match x with | .slice _ n _ => c (.int .i64 (.ofNat n)) | _ => no 57)
    | .map _ _ => (match x with
      | .map none => c (.int .i64 (.ofNat 0))
      | .map (some r) => (match h.t.find r with | some (.map es _) => fN es.length fun n => c (.int .i64 (.ofNat n)) | _ => no 58)
      | _ => no 59)
    | _ => no 60
noncomputable def repCells (z : List Value) : Nat → List Value → List Value
  | 0, acc => acc
  | n + 1, acc => repCells z n (z ++ acc)
noncomputable def isIntD : TypeDesc → Bool | .int _ => true | _ => false
/-- a trie from off on. -/
noncomputable def partOf (off : Nat) (t : T Value) : T Value :=
  match off with
  | 0 => t
  | Nat.succ o => (match t with
    | .shift n t => .shift (Nat.add n (Nat.succ o)) t
    | t => .shift (Nat.succ o) t)
/-- the first m cells of a slice: all at once. -/
noncomputable def shareOf (x : Value) (m : Nat) (h : Hp) : Option (Value × T Value) :=
  match x with
  | .slice (some ⟨k, off, none⟩) _ _ => (match h.t.find k with
    | some (.cells n _ _ _ _ d tr) => (match Nat.ble (Nat.add off m) n with | true => some (d, partOf off tr) | false => none)
    | _ => none)
  | _ => none
/-- a great block's cells, that are written over by another's. -/
noncomputable def copyShare (base : Option Addr) (m : Nat) (s : Value) (h : Hp) : Option (Nat × Blk) :=
  match Nat.ble 64 m with
  | false => none
  | true => (match base with
    | some ⟨k, 0, none⟩ => (match h.t.find k with
      | some (.cells n el ez true pl _ _) => (match Nat.beq m n, shareOf s m h with
        | true, some (d, tr) => some (k, .cells n el ez true pl d tr)
        | _, _ => none)
      | _ => none)
    | _ => none)
/-- a great block's cells, appended to nothing, without room. -/
noncomputable def appShare (s x : Value) (size : Nat) (h : Hp) : Option (Nat × Value × T Value) :=
  match x with
  | .slice _ n _ => (match Nat.ble 64 n && Nat.ble n 1073741824 with
    | false => none
    | true => (match s with
      | .slice none 0 0 => (shareOf x (Nat.mul n size) h).map fun p => (n, p)
      | .slice (some ⟨_, _, none⟩) 0 cap => (match Nat.blt cap n with | true => (shareOf x (Nat.mul n size) h).map fun p => (n, p) | false => none)
      | _ => none))
  | _ => none
/-- append: to a slice that may have spare room; the block that it lay in is let go then. -/
noncomputable def grownK (elem : TypeId) (esz : Nat) (pl : Bool) (vs : List Value) (need : Nat) (h : Hp) (c : Value → Hp → An R) : An R :=
  putCells vs 0 .nil fun tr => newBlk (.cells vs.length elem esz true pl undef tr) h fun k h => c (.slice (some ⟨k, 0, none⟩) need TOP) h
/-- what is appended: how many elements, their cells. -/
noncomputable def newK (xT : TypeId) (size bytes : Nat) (z : Value) (x : Value) (h : Hp) (c : Nat → List Value → An R) : An R :=
  und B xT fun
    | .int _ => asN x fun n => match Nat.ble n 1073741824 && Nat.ble bytes 4096 with
      | true => c n (repCells (cellsOf z) n [])
      | false => no 61
    | _ => match x with
      | .slice _ n _ => firstK size n x h fun l => c n l
      | .string ⟨⟨l⟩⟩ => fN l.length fun n => firstK size n x h fun l => c n l
      | _ => no 62
noncomputable def appendK (sT xT : TypeId) (s x : Value) (h : Hp) (c : Value → Hp → An R) : An R :=
  und B sT fun
    | .slice elem => info B elem fun e => zeroOf B elem fun z => match appShare s x e.size h with
     | some (n, d, tr) => und B xT fun xd => (match !isIntD xd && (Nat.ble e.bytes 4096 && Nat.beq (cellsOf z).length e.size) with
      | true => fN (Nat.mul n e.size) fun m => newBlk (.cells m elem e.size true true d tr) h fun k h => c (.slice (some ⟨k, 0, none⟩) n TOP) h
      | false => no 62)
     | none => newK B xT e.size e.bytes z x h fun n new => match s with
      | .slice base len cap => (match n with
          | 0 => (match base with
            | none => (match Nat.ble len cap with | true => c s h | false => no 63)
            | some _ => c s h)
          | Nat.succ _ => fN (Nat.add len n) fun need => match Nat.ble need 1073741824 && Nat.ble e.bytes 4096 && Nat.beq (cellsOf z).length e.size && Nat.beq new.length (Nat.mul n e.size) with
            | true => (match base with
              | none => (match Nat.beq cap 0 && Nat.beq len 0 with | true => grownK elem e.size true new need h c | false => no 63)
              | some ⟨k, off, none⟩ => (match Nat.blt cap 4611686018427387904 with
                | true => (match Nat.ble need cap with
                  | true => fN (Nat.add off (Nat.mul len e.size)) fun o => writeAt k o new h fun h => c (.slice base need cap) h
                  | false => firstK e.size len s h fun old => fL (old ++ new) fun vs => grownK elem e.size true vs need h c)
                | false => (match h.t.find k with
                  | some (.cells _ el ez true pl _ _) => (match Nat.beq el elem && Nat.beq ez e.size && Nat.ble cap TOP && Nat.beq off (Nat.mul (Nat.sub TOP cap) e.size) with
                    | true => firstK e.size len s h fun old => fL (old ++ new) fun vs => grownK elem e.size pl vs need h fun v h => h.t.putK none k fun t => c v ⟨t, h.next⟩
                    | false => no 64)
                  | _ => no 64))
              | _ => no 64)
            | false => no 64)
      | _ => no 65
    | _ => no 66
noncomputable def copyK (dT : TypeId) (d s : Value) (h : Hp) (c : Value → Hp → An R) : An R :=
  und B dT fun
    | .slice elem => info B elem fun e => match d with
      | .slice base dl _ => (match s with
        | .slice _ n _ => fN (Nat.min n dl) | .string ⟨⟨l⟩⟩ => fN (Nat.min l.length dl) | _ => fun _ => no 67) fun n => match copyShare base (Nat.mul n e.size) s h with
         | some (k, b) => h.t.putK (some b) k fun t => c (.int .i64 (.ofNat n)) ⟨t, h.next⟩
         | none => firstK e.size n s h fun vs => match vs, base with
          | [], _ => c (.int .i64 (.ofNat n)) h
          | _, some ⟨k, off, none⟩ => writeAt k off vs h fun h => c (.int .i64 (.ofNat n)) h
          | _, _ => no 68
      | _ => no 69
    | _ => no 70
noncomputable def buildPut (n : Nat) (places : Nat → Option (Nat × Nat)) : List (Nat × Value) → T Value → (T Value → An R) → An R
  | [], t, c => c t
  | (i, v) :: r, t, c => match places i with
    | some (off, size) => (match Nat.beq (cellsOf v).length size && Nat.ble (Nat.add off size) n with | true => putCells (cellsOf v) off t fun t => buildPut n places r t c | false => no 71)
    | none => no 72
noncomputable def placesK : List Field → (List (Nat × Nat) → An R) → An R
  | [], c => c []
  | f :: r, c => info B f.type fun i => placesK r fun l => c ((f.offset, i.size) :: l)
noncomputable def seedCells : List Value → (i : Nat) → T Value → (T Value → An R) → An R := putCells
noncomputable def buildK (t : TypeId) (parts : List (Nat × Value)) (c : Value → An R) : An R :=
  zeroOf B t fun z => und B t fun
    | .struct fs => placesK B fs.toList fun pl => putCells (cellsOf z) 0 .nil fun tr => buildPut (cellsOf z).length (fun i => pl[i]?) parts tr fun tr => cellsK undef tr (cellsOf z).length 0 fun l => c (.agg ⟨l⟩)
    | .array _ elem => info B elem fun e => putCells (cellsOf z) 0 .nil fun tr => buildPut (cellsOf z).length (fun i => some (Nat.mul i e.size, e.size)) parts tr fun tr => cellsK undef tr (cellsOf z).length 0 fun l => c (.agg ⟨l⟩)
    | _ => no 73
noncomputable def buildSliceK (t : TypeId) (len : Nat) (parts : List (Nat × Value)) (h : Hp) (c : Value → Hp → An R) : An R :=
  und B t fun
    | .slice elem => info B elem fun e => zeroOf B elem fun z => (match Nat.ble (Nat.mul len e.size) 1048576 && Nat.ble len 1048576, Nat.beq (cellsOf z).length e.size with
        | true, true => putCells (repCells (cellsOf z) len []) 0 .nil fun tr => buildPut (Nat.mul len e.size) (fun i => some (Nat.mul i e.size, e.size)) parts tr fun tr =>
          fN (Nat.mul len e.size) fun n => newBlk (.cells n elem e.size true true undef tr) h fun k h => c (.slice (some ⟨k, 0, none⟩) len len) h
        | _, _ => no 74)
    | _ => no 74
noncomputable def makeSliceK (t : TypeId) (l cp : Value) (h : Hp) (c : Value → Hp → An R) : An R :=
  und B t fun
    | .slice elem => info B elem fun e => zeroOf B elem fun z => asN l fun l => asN cp fun cp => match Nat.ble l cp && Nat.ble cp 1073741824 && Nat.ble (Nat.mul cp e.size) 1073741824 && Nat.ble e.bytes 4096, Nat.beq (cellsOf z).length e.size with
      | true, true => (match cellsOf z with
        | [d] => newRowOf elem 1 cp d h fun k h => c (.slice (some ⟨k, 0, none⟩) l cp) h
        | zs => putCells (repCells zs cp []) 0 .nil fun tr => fN (Nat.mul cp e.size) fun n => newBlk (.cells n elem e.size true true undef tr) h fun k h => c (.slice (some ⟨k, 0, none⟩) l cp) h)
      | _, _ => no 75
    | _ => no 76
/-- is the spare room there, if it is known that there is some? -/
noncomputable def insRoom (cap len off n need size : Nat) : Bool :=
  match Nat.blt cap 4611686018427387904 with
  | true => Nat.ble len cap && (Nat.blt cap need || Nat.ble (Nat.add off (Nat.mul cap size)) n)
  | false => Nat.ble cap TOP && Nat.beq off (Nat.mul (Nat.sub TOP cap) size)
/-- slices.Insert, whatever room there is: the block that the slice lay in is let go. -/
noncomputable def insertK (sT : TypeId) (s ix v : Value) (h : Hp) (c : Value → Hp → An R) : An R :=
  und B sT fun
    | .slice elem => info B elem fun e => match ix with
     | .int .i64 (.ofNat i) => (match s, v with
      | .slice base len cap, .slice (some ⟨kv, ov, none⟩) m cv => (match h.t.find kv with
        | some (.cells _ _ _ _ true _ _) => (match Nat.beq m 0, Nat.ble i len && Nat.ble (Nat.add len m) 1073741824 && Nat.beq e.size 1 with
          | false, true => firstK e.size m v h fun new => firstK e.size len s h fun old => fL (old.take i) fun a => fL (old.drop i) fun z => fN (Nat.add len m) fun need => fL (a ++ (new ++ z)) fun vs =>
            (match base, cap with
            | none, 0 => grownK elem e.size true vs need h c
            | some ⟨k, off, none⟩, _ => (match h.t.find k with
              | some (.cells n el ez true _ _ _) => (match Nat.beq kv k, Nat.beq el elem && Nat.beq ez e.size && insRoom cap len off n need e.size with
                | false, true => grownK elem e.size false vs need h fun v h => h.t.putK none k fun t => c v ⟨t, h.next⟩
                | _, _ => no 77)
              | _ => no 77)
            | _, _ => no 77)
          | _, _ => no 78)
        | _ => no 78)
      | _, _ => no 79)
     | _ => no 79
    | _ => no 80
/-- a type of keys that are compared at once. -/
noncomputable def keyD : TypeDesc → Bool | .int _ | .string | .bool | .pointer _ => true | _ => false
/-- are two keys the same? -/
noncomputable def sameKeyK (d : TypeDesc) (h : Hp) (x y : Value) (c : Bool → An R) : An R :=
  match d with
  | .int _ => (match x, y with | .int k a, .int j b => (match decide (k = j) with | true => (match a == b with | true => c true | false => c false) | false => no 130) | _, _ => no 130)
  | .string => (match x, y with | .string ⟨⟨a⟩⟩, .string ⟨⟨b⟩⟩ => (match a == b with | true => c true | false => c false) | _, _ => no 130)
  | .bool => (match x, y with | .bool a, .bool b => (match a == b with | true => c true | false => c false) | _, _ => no 130)
  | .pointer e => (match x, y with
    | .pointer (some ⟨k, o, none⟩), .pointer (some ⟨j, p, none⟩) => sameV B d h x y fun b => (match b with
        | true => (match Nat.beq k j && Nat.beq o p with | true => c true | false => no 131)
        | false => c false)
    | _, _ => no 131)
  | _ => no 130
/-- a key's entry: its place. -/
noncomputable def findKK (d : TypeDesc) (h : Hp) (k : Value) : List MapEntry → (i : Nat) → (Option (Nat × MapEntry) → An R) → An R
  | [], _, c => c none
  | e :: r, i, c => sameKeyK B d h k e.key fun b => match b with | true => c (some (i, e)) | false => findKK d h k r (Nat.succ i) c
noncomputable def mapD (t : TypeId) (c : TypeDesc → TypeId → An R) : An R :=
  und B t fun | .map key elem => und B key fun kd => (match keyD kd with | true => c kd elem | false => no 132) | _ => no 132
noncomputable def mapB (x : Value) (h : Hp) (c : Nat → List MapEntry → Nat → An R) : An R :=
  match x with
  | .map (some r) => (match h.t.find r with | some (.map es clock) => c r es clock | _ => no 133)
  | _ => no 133
noncomputable def okV (ok : Bool) (v : Value) (b : Bool) : Value := match ok with | true => .tuple ⟨[v, .bool b]⟩ | false => v
noncomputable def lookupK (t : TypeId) (x ix : Value) (ok : Bool) (h : Hp) (c : Value → An R) : An R :=
  mapD B t fun kd elem => match x with
    | .map none => zeroOf B elem fun z => c (okV ok z false)
    | x => mapB x h fun _ es _ => findKK B kd h ix es 0 fun
      | some (_, e) => c (okV ok e.val true)
      | none => zeroOf B elem fun z => c (okV ok z false)
noncomputable def mapPutK (t : TypeId) (m k v : Value) (h : Hp) (c : Hp → An R) : An R :=
  mapD B t fun kd _ => mapB m h fun r es clock => findKK B kd h k es 0 fun
    | some (i, e) => fL (es.set i ⟨k, v, e.born⟩) fun es => h.t.putK (some (.map es clock)) r fun t => c ⟨t, h.next⟩
    | none => fL (es ++ [⟨k, v, clock⟩]) fun es => fN (Nat.succ clock) fun clock => h.t.putK (some (.map es clock)) r fun t => c ⟨t, h.next⟩
noncomputable def mapDelK (t : TypeId) (m k : Value) (h : Hp) (c : Hp → An R) : An R :=
  mapD B t fun kd _ => match m with
    | .map none => c h
    | m => mapB m h fun r es clock => findKK B kd h k es 0 fun
      | some (i, _) => fL (es.eraseIdx i) fun es => h.t.putK (some (.map es clock)) r fun t => c ⟨t, h.next⟩
      | none => c h
noncomputable def mapEntryK (t : TypeId) (m k : Value) (h : Hp) (c : Value → Hp → An R) : An R :=
  mapD B t fun kd elem => mapB m h fun r es clock => findKK B kd h k es 0 fun
    | some (i, e) => fL (es.set i ⟨k, e.val, e.born⟩) fun es => h.t.putK (some (.map es clock)) r fun t => c (.tuple ⟨[e.val, .int .i64 (.ofNat e.born)]⟩) ⟨t, h.next⟩
    | none => zeroOf B elem fun z => fL (es ++ [⟨k, z, clock⟩]) fun es => fN (Nat.succ clock) fun clock' => h.t.putK (some (.map es clock')) r fun t => c (.tuple ⟨[z, .int .i64 (.ofNat clock)]⟩) ⟨t, h.next⟩
noncomputable def bornAt (s : Nat) : List MapEntry → (i : Nat) → Option (Nat × MapEntry)
  | [], _ => none
  | e :: r, i => match Nat.beq e.born s with | true => some (i, e) | false => bornAt s r (Nat.succ i)
noncomputable def entryStoreK (m stamp v : Value) (h : Hp) (c : Hp → An R) : An R :=
  asN stamp fun s => match Nat.ble s 1048576 with
    | true => mapB m h fun r es clock => (match bornAt s es 0 with
      | some (i, e) => fL (es.set i ⟨e.key, v, e.born⟩) fun es => h.t.putK (some (.map es clock)) r fun t => c ⟨t, h.next⟩
      | none => no 134)
    | false => no 134
noncomputable def iterK (t : TypeId) (x : Value) (h : Hp) (c : Value → Hp → An R) : An R :=
  und B t fun
    | .map _ _ => (match x with
      | .map none => newBlk (.iter none 0 [] 0) h fun k h => c (.pointer (some ⟨k, 0, none⟩)) h
      | x => mapB x h fun r _ clock => newBlk (.iter (some r) clock [] clock) h fun k h => c (.pointer (some ⟨k, 0, none⟩)) h)
    | _ => no 135
noncomputable def isNew (since : Nat) (seen : List Nat) (e : MapEntry) : Bool := !seen.contains e.born && Nat.ble since e.born
noncomputable def isOld (since : Nat) (seen : List Nat) (e : MapEntry) : Bool := !seen.contains e.born && Nat.blt e.born since
/-- the next entry, where there is no choice. -/
noncomputable def nextK (x : Value) (h : Hp) (c : Value → Hp → An R) : An R :=
  match x with
  | .pointer (some ⟨k, 0, none⟩) => (match h.t.find k with
    | some (.iter none _ _ _) => c (.tuple ⟨[.bool false]⟩) h
    | some (.iter (some m) since seen stepped) => (match h.t.find m with
      | some (.map es clock) => (match !seen.isEmpty && !es.isEmpty && es.all (fun e => Nat.ble stepped e.born) with
        | true => no 136
        | false => (match es.filter (isOld since seen), es.filter (isNew since seen) with
          | [], [] => c (.tuple ⟨[.bool false]⟩) h
          | [e], [] => fL (seen ++ [e.born]) fun seen => h.t.putK (some (.iter (some m) since seen clock)) k fun t => c (.tuple ⟨[.bool true, e.key, e.val]⟩) ⟨t, h.next⟩
          | _, _ => no 129))
      | _ => no 137)
    | _ => no 137)
  | _ => no 137
/-- what comes behind each of some entries: one answer. -/
noncomputable def eachK (J : R → R → Bool) (f : MapEntry → An R) (a : MapEntry) : List MapEntry → An R
  | [] => f a
  | b :: l => (match f a with
    | .ok x => (match eachK J f b l with
      | .ok y => (match J x y with | true => .ok x | false => no 143)
      | .error n => .error n)
    | .error n => .error n)
/-- the next entry, whichever it is. -/
noncomputable def nextsK (J : R → R → Bool) (x : Value) (h : Hp) (c : Value → Hp → An R) : An R :=
  match x with
  | .pointer (some ⟨k, 0, none⟩) => (match h.t.find k with
    | some (.iter (some m) since seen stepped) => (match h.t.find m with
      | some (.map es clock) => (match !seen.isEmpty && !es.isEmpty && es.all (fun e => Nat.ble stepped e.born) with
        | true => no 136
        | false => (match es.filter (isOld since seen), es.filter (isNew since seen) with
          | a :: b :: l, [] => eachK J (fun e => fL (seen ++ [e.born]) fun seen => h.t.putK (some (.iter (some m) since seen clock)) k fun t => c (.tuple ⟨[.bool true, e.key, e.val]⟩) ⟨t, h.next⟩) a (b :: l)
          | _, _ => nextK x h c))
      | _ => nextK x h c)
    | _ => nextK x h c)
  | _ => no 137
noncomputable def capK (t : TypeId) (x : Value) (c : Value → An R) : An R :=
  und B t fun
    | .slice _ => (match x with
      | .slice (some ⟨_, _, none⟩) _ cap => (match Nat.blt cap 4611686018427387904 with | true => c (.int .i64 (.ofNat cap)) | false => no 91)
      | .slice none _ cap => c (.int .i64 (.ofNat cap))
      | _ => no 91)
    | _ => no 91
noncomputable def minK (x y : Value) (c : Value → An R) : An R := match x, y with | .int k x, .int _ y => fV (.int k (if y < x then y else x)) c | _, _ => no 93
noncomputable def maxK (x y : Value) (c : Value → An R) : An R := match x, y with | .int k x, .int _ y => fV (.int k (if y > x then y else x)) c | _, _ => no 93
noncomputable def clearK (t : TypeId) (x : Value) (h : Hp) (c : Hp → An R) : An R :=
  und B t fun
    | .map _ _ => (match x with
      | .map none => c h
      | x => mapB x h fun r _ clock => h.t.putK (some (.map [] clock)) r fun t => c ⟨t, h.next⟩)
    | .slice e => (match x with
      | .slice none _ _ => c h
      | .slice (some ⟨_, _, none⟩) 0 _ => c h
      | .slice (some ⟨k, off, none⟩) n _ => zeroOf B e fun z => writeAt k off (repCells (cellsOf z) n []) h c
      | _ => no 92)
    | _ => no 92
noncomputable def bFn' : Builtin → ((R : Type) → Tab → List Value → List TypeId → Hp → (Value → Hp → An R) → An R)
  | .len => fun R B args ats h c => (match args, ats with | [x], [t] => lenK B x t h fun v => c v h | _, _ => no 93)
  | .cap => fun R B args ats h c => (match args, ats with | [x], [t] => capK B t x fun v => c v h | _, _ => no 93)
  | .append => fun R B args ats h c => (match args, ats with | [s, x], [sT, xT] => appendK B sT xT s x h c | _, _ => no 93)
  | .copy => fun R B args ats h c => (match args, ats with | [d, s], [dT, _] => copyK B dT d s h c | _, _ => no 93)
  | .min => fun R B args ats h c => (match args with | [x, y] => minK x y fun v => c v h | _ => no 93)
  | .max => fun R B args ats h c => (match args with | [x, y] => maxK x y fun v => c v h | _ => no 93)
  | .delete => fun R B args ats h c => (match args, ats with | [m, k], t :: _ => mapDelK B t m k h fun h => c undef h | _, _ => no 93)
  | .clear => fun R B args ats h c => (match args, ats with | [x], [t] => clearK B t x h fun h => c undef h | _, _ => no 93)
  | _ => fun R B args ats h c => no 93
noncomputable def bFn : Builtin → ((R : Type) → Tab → List Value → List TypeId → Hp → (Value → Hp → An R) → An R) := @Builtin.rec (fun _ => ((R : Type) → Tab → List Value → List TypeId → Hp → (Value → Hp → An R) → An R))
  (fun R B args ats h c => (match args, ats with | [s, x], [sT, xT] => appendK B sT xT s x h c | _, _ => no 93))
  (fun R B args ats h c => (match args, ats with | [x], [t] => capK B t x fun v => c v h | _, _ => no 93))
  (fun R B args ats h c => (match args, ats with | [x], [t] => clearK B t x h fun h => c undef h | _, _ => no 93))
  (fun R B args ats h c => no 93)
  (fun R B args ats h c => no 93)
  (fun R B args ats h c => (match args, ats with | [d, s], [dT, _] => copyK B dT d s h c | _, _ => no 93))
  (fun R B args ats h c => (match args, ats with | [m, k], t :: _ => mapDelK B t m k h fun h => c undef h | _, _ => no 93))
  (fun R B args ats h c => no 93)
  (fun R B args ats h c => (match args, ats with | [x], [t] => lenK B x t h fun v => c v h | _, _ => no 93))
  (fun R B args ats h c => no 93)
  (fun R B args ats h c => (match args with | [x, y] => maxK x y fun v => c v h | _ => no 93))
  (fun R B args ats h c => (match args with | [x, y] => minK x y fun v => c v h | _ => no 93))
  (fun R B args ats h c => no 93)
  (fun R B args ats h c => no 93)
  (fun R B args ats h c => no 93)
  (fun R B args ats h c => no 93)
  (fun R B args ats h c => no 93)
  (fun R B args ats h c => no 93)
  (fun R B args ats h c => no 93)
  (fun R B args ats h c => no 93)
  (fun R B args ats h c => no 93)
  (fun R B args ats h c => no 93)
  (fun R B args ats h c => no 93)
  (fun R B args ats h c => no 93)
  (fun R B args ats h c => no 93)
  (fun R B args ats h c => no 93)
theorem bFn_eq (b : Builtin) : bFn b = bFn' b := by cases b <;> rfl
noncomputable def builtinK (b : Builtin) (args : List Value) (ats : List TypeId) (h : Hp) (c : Value → Hp → An R) : An R := bFn b R B args ats h c
noncomputable def recvOk : TypeDesc → Bool → Bool | .pointer _, pr => pr | _, pr => !pr
/-- the entry that the iterator stands at. -/
noncomputable def entryK (x : Value) (h : Hp) (c : Value → An R) : An R :=
  match x with
  | .pointer (some ⟨k, 0, none⟩) => (match h.t.find k with
    | some (.iter (some m) _ seen stepped) => (match h.t.find m with
      | some (.map es clock) => (match Nat.beq clock stepped, seen.getLast? with
        | true, some s => (match bornAt s es 0 with | some (_, e) => c (.tuple ⟨[e.key, e.val]⟩) | none => no 141)
        | _, _ => no 141)
      | _ => no 141)
    | _ => no 141)
  | _ => no 141
/-- x.(T), T no interface. -/
noncomputable def assertK (t : TypeId) (x : Value) (ok : Bool) (c : Value → An R) : An R :=
  und B t fun | .interface _ => no 139 | _ => match x with
    | .iface u v => (match Nat.beq u t with
      | true => c (okV ok v true)
      | false => (match ok with | true => zeroOf B t fun z => c (okV true z false) | false => no 139))
    | .nilIface => (match ok with | true => zeroOf B t fun z => c (okV true z false) | false => no 139)
    | _ => no 139
/-- maps.clone. -/
noncomputable def cloneK (l : List Value) (h : Hp) (c : Value → Hp → An R) : An R :=
  match l with
  | [.iface t (.map (some r))] => (match h.t.find r with
    | some (.map es clock) => newBlk (.map es clock) h fun k h => c (.iface t (.map (some k))) h
    | _ => no 140)
  | _ => no 140
/-- a method that is called with the value itself. -/
noncomputable def methK (t : TypeId) (m : String) (c : FuncId → An R) : An R :=
  info B t fun i => match i.methods.find? (fun x => x.name == m) with
    | some mt => (match mt.path.isEmpty, mt.func with
      | true, some (f, pr) => und B t fun d => (match recvOk d pr with | true => c f | false => no 94)
      | _, _ => no 94)
    | none => no 94
abbrev CallK (R : Type) := Fn → List Value → List Value → List Value → Hp → (Value → Hp → An R) → An R
/-- one operation, of which the operands are read. -/
noncomputable def opFn' : Op → ((R : Type) → (R → R → Bool) → Tab → CallK R → T Value → Hp → (Value → Hp → An R) → An R)
  | .move x | .assign x => fun R J B call tm h c => opd tm x fun v => c v h
  | .pick b x y => fun R J B call tm h c => opd tm b fun | .bool true => opd tm x fun v => c v h | .bool false => opd tm y fun v => c v h | _ => no 81
  | .load t a => fun R J B call tm h c => opd tm a fun a => loadAt B t a h fun v => c v h
  | .store t a x => fun R J B call tm h c => opd tm a fun a => opd tm x fun x => storeAt B t a x h fun h => c undef h
  | .nilCheck x => fun R J B call tm h c => opd tm x fun x => match x with
    | .pointer (some _) => c x h
    | .iface _ _ => c x h
    | .func (.func _) _ _ => c x h
    | .func (.yield _) _ _ => c x h
    | _ => no 82
  | .binOp op t x y _ => fun R J B call tm h c => opd tm x fun x => opd tm y fun y => binK B op t x y h fun v => c v h
  | .unOp op _ x => fun R J B call tm h c => opd tm x fun | .int k n => fS (Op.unary op (.int k n)) fun v => c v h | .bool b => fS (Op.unary op (.bool b)) fun v => c v h | _ => no 83
  | .convert s d x => fun R J B call tm h c => opd tm x fun x => convK B s d x h c
  | .fieldAddr s x f => fun R J B call tm h c => opd tm x fun | .pointer (some ⟨k, off, none⟩) => fieldOff B s f fun fd z => (match z with | 0 => no 84 | Nat.succ _ => addOff k off fd.offset fun v => c v h) | _ => no 85
  | .field s x f => fun R J B call tm h c => opd tm x fun | .agg ⟨l⟩ => fieldOff B s f fun fd _ => partK B fd.type l fd.offset fun v => c v h | _ => no 86
  | .indexAddr t x i => fun R J B call tm h c => opd tm x fun x => opd tm i fun i => indexAddrK B t x i fun v => c v h
  | .index t x i => fun R J B call tm h c => opd tm x fun x => opd tm i fun i => indexK B t x i fun v => c v h
  | .lookup t x i ok => fun R J B call tm h c => opd tm x fun x => opd tm i fun i => lookupK B t x i ok h fun v => c v h
  | .mapUpdate t m k x => fun R J B call tm h c => opd tm m fun m => opd tm k fun k => opd tm x fun x => mapPutK B t m k x h fun h => c undef h
  | .insert t m k x => fun R J B call tm h c => opd tm m fun m => opd tm k fun k => opd tm x fun x => mapPutK B t m k x h fun h => c undef h
  | .mapEntry t m k => fun R J B call tm h c => opd tm m fun m => opd tm k fun k => mapEntryK B t m k h c
  | .entryStore _ m s x => fun R J B call tm h c => opd tm m fun m => opd tm s fun s => opd tm x fun x => entryStoreK m s x h fun h => c undef h
  | .range t x => fun R J B call tm h c => opd tm x fun x => iterK B t x h c
  | .typeAssert x _ t ok => fun R J B call tm h c => opd tm x fun x => assertK B t x ok fun v => c v h
  | .next it isS => fun R J B call tm h c => match isS with | false => opd tm it fun it => nextsK J it h c | true => no 138
  | .defer _ => fun R J B call tm h c => no 953
  | .panic _ => fun R J B call tm h c => no 954
  | .entry it => fun R J B call tm h c => opd tm it fun it => entryK it h fun v => c v h
  | .ready _ => fun R J B call tm h c => no 956
  | .waits _ => fun R J B call tm h c => no 957
  | .extract x i => fun R J B call tm h c => opd tm x fun | .tuple ⟨l⟩ => (match l[i]? with | some v => c v h | none => no 87) | _ => no 88
  | .makeInterface t x => fun R J B call tm h c => opd tm x fun x => und B t fun | .interface _ => no 89 | _ => c (.iface t x) h
  | .makeFunc fn a b => fun R J B call tm h c => (match fn with | .func f => opds tm a.toList fun a => opds tm b.toList fun b => c (.func (.func f) ⟨a⟩ ⟨b⟩) h | _ => no 951)
  | .slice t x lo hi mx => fun R J B call tm h c => opd tm x fun x => opdO tm lo fun lo => opdO tm hi fun hi => opdO tm mx fun mx => sliceK B t x lo hi mx fun v => c v h
  | .alloc t => fun R J B call tm h c => zeroOf B t fun z => newCells t 1 (cellsOf z) h fun k h => c (.pointer (some ⟨k, 0, none⟩)) h
  | .box t x => fun R J B call tm h c => opd tm x fun x => newCells t 1 (cellsOf x) h fun k h => c (.pointer (some ⟨k, 0, none⟩)) h
  | .build t ps => fun R J B call tm h c => opds tm (ps.toList.map (·.2)) fun vs => buildK B t ((ps.toList.map (·.1)).zip vs) fun v => c v h
  | .buildSlice t n ps => fun R J B call tm h c => opds tm (ps.toList.map (·.2)) fun vs => buildSliceK B t n ((ps.toList.map (·.1)).zip vs) h c
  | .makeSlice t l cp => fun R J B call tm h c => opd tm l fun l => opd tm cp fun cp => makeSliceK B t l cp h c
  | .makeMap _ r => fun R J B call tm h c => (match r with | none => newBlk (.map [] 0) h fun k h => c (.map (some k)) h | some _ => no 952)
  | .call cl => fun R J B call tm h c => match cl.callee with
    | .value f => opd tm f fun | .func fn first cap => opds tm cl.args.toList fun args => call fn first.toList args cap.toList h c | _ => no 90
    | .builtin b => opds tm cl.args.toList fun args => builtinK B b args cl.argTypes.toList h c
    | .invoke rv m => opd tm rv fun | .iface t v => methK B t m fun f => opds tm cl.args.toList fun args => call (.func f) [v] args [] h c | _ => no 94
  | _ => fun R J B call tm h c => no 95
noncomputable def opFn : Op → ((R : Type) → (R → R → Bool) → Tab → CallK R → T Value → Hp → (Value → Hp → An R) → An R) := @Op.rec (fun _ => ((R : Type) → (R → R → Bool) → Tab → CallK R → T Value → Hp → (Value → Hp → An R) → An R))
  (fun x => fun R J B call tm h c => opd tm x fun v => c v h)
  (fun x => fun R J B call tm h c => opd tm x fun v => c v h)
  (fun b x y => fun R J B call tm h c => opd tm b fun | .bool true => opd tm x fun v => c v h | .bool false => opd tm y fun v => c v h | _ => no 81)
  (fun t => fun R J B call tm h c => zeroOf B t fun z => newCells t 1 (cellsOf z) h fun k h => c (.pointer (some ⟨k, 0, none⟩)) h)
  (fun t x => fun R J B call tm h c => opd tm x fun x => newCells t 1 (cellsOf x) h fun k h => c (.pointer (some ⟨k, 0, none⟩)) h)
  (fun t ps => fun R J B call tm h c => opds tm (ps.toList.map (·.2)) fun vs => buildK B t ((ps.toList.map (·.1)).zip vs) fun v => c v h)
  (fun t n ps => fun R J B call tm h c => opds tm (ps.toList.map (·.2)) fun vs => buildSliceK B t n ((ps.toList.map (·.1)).zip vs) h c)
  (fun t m k x => fun R J B call tm h c => opd tm m fun m => opd tm k fun k => opd tm x fun x => mapPutK B t m k x h fun h => c undef h)
  (fun t a => fun R J B call tm h c => opd tm a fun a => loadAt B t a h fun v => c v h)
  (fun t a x => fun R J B call tm h c => opd tm a fun a => opd tm x fun x => storeAt B t a x h fun h => c undef h)
  (fun _ => fun R J B call tm h c => no 956)
  (fun _ => fun R J B call tm h c => no 957)
  (fun x => fun R J B call tm h c => opd tm x fun x => match x with
    | .pointer (some _) => c x h
    | .iface _ _ => c x h
    | .func (.func _) _ _ => c x h
    | .func (.yield _) _ _ => c x h
    | _ => no 82)
  (fun op t x y _ => fun R J B call tm h c => opd tm x fun x => opd tm y fun y => binK B op t x y h fun v => c v h)
  (fun op _ x => fun R J B call tm h c => opd tm x fun | .int k n => fS (Op.unary op (.int k n)) fun v => c v h | .bool b => fS (Op.unary op (.bool b)) fun v => c v h | _ => no 83)
  (fun s d x => fun R J B call tm h c => opd tm x fun x => convK B s d x h c)
  (fun _ _ => fun R J B call tm h c => no 95)
  (fun t x => fun R J B call tm h c => opd tm x fun x => und B t fun | .interface _ => no 89 | _ => c (.iface t x) h)
  (fun fn a b => fun R J B call tm h c => (match fn with | .func f => opds tm a.toList fun a => opds tm b.toList fun b => c (.func (.func f) ⟨a⟩ ⟨b⟩) h | _ => no 951))
  (fun _ r => fun R J B call tm h c => (match r with | none => newBlk (.map [] 0) h fun k h => c (.map (some k)) h | some _ => no 952))
  (fun _ _ => fun R J B call tm h c => no 95)
  (fun t l cp => fun R J B call tm h c => opd tm l fun l => opd tm cp fun cp => makeSliceK B t l cp h c)
  (fun t x lo hi mx => fun R J B call tm h c => opd tm x fun x => opdO tm lo fun lo => opdO tm hi fun hi => opdO tm mx fun mx => sliceK B t x lo hi mx fun v => c v h)
  (fun s x f => fun R J B call tm h c => opd tm x fun | .pointer (some ⟨k, off, none⟩) => fieldOff B s f fun fd z => (match z with | 0 => no 84 | Nat.succ _ => addOff k off fd.offset fun v => c v h) | _ => no 85)
  (fun s x f => fun R J B call tm h c => opd tm x fun | .agg ⟨l⟩ => fieldOff B s f fun fd _ => partK B fd.type l fd.offset fun v => c v h | _ => no 86)
  (fun t x i => fun R J B call tm h c => opd tm x fun x => opd tm i fun i => indexAddrK B t x i fun v => c v h)
  (fun t x i => fun R J B call tm h c => opd tm x fun x => opd tm i fun i => indexK B t x i fun v => c v h)
  (fun t x i ok => fun R J B call tm h c => opd tm x fun x => opd tm i fun i => lookupK B t x i ok h fun v => c v h)
  (fun t m k x => fun R J B call tm h c => opd tm m fun m => opd tm k fun k => opd tm x fun x => mapPutK B t m k x h fun h => c undef h)
  (fun t m k => fun R J B call tm h c => opd tm m fun m => opd tm k fun k => mapEntryK B t m k h c)
  (fun _ m s x => fun R J B call tm h c => opd tm m fun m => opd tm s fun s => opd tm x fun x => entryStoreK m s x h fun h => c undef h)
  (fun t x => fun R J B call tm h c => opd tm x fun x => iterK B t x h c)
  (fun it isS => fun R J B call tm h c => match isS with | false => opd tm it fun it => nextsK J it h c | true => no 138)
  (fun it => fun R J B call tm h c => opd tm it fun it => entryK it h fun v => c v h)
  (fun x _ t ok => fun R J B call tm h c => opd tm x fun x => assertK B t x ok fun v => c v h)
  (fun x i => fun R J B call tm h c => opd tm x fun | .tuple ⟨l⟩ => (match l[i]? with | some v => c v h | none => no 87) | _ => no 88)
  (fun cl => fun R J B call tm h c => match cl.callee with
    | .value f => opd tm f fun | .func fn first cap => opds tm cl.args.toList fun args => call fn first.toList args cap.toList h c | _ => no 90
    | .builtin b => opds tm cl.args.toList fun args => builtinK B b args cl.argTypes.toList h c
    | .invoke rv m => opd tm rv fun | .iface t v => methK B t m fun f => opds tm cl.args.toList fun args => call (.func f) [v] args [] h c | _ => no 94)
  (fun _ => fun R J B call tm h c => no 95)
  (fun _ => fun R J B call tm h c => no 953)
  (fun _ => fun R J B call tm h c => no 954)
  (fun _ _ => fun R J B call tm h c => no 95)
  (fun _ _ _ => fun R J B call tm h c => no 95)
  (fun _ _ => fun R J B call tm h c => no 95)
theorem opFn_eq (o : Op) : opFn o = opFn' o := by cases o <;> rfl
noncomputable def execK (J : R → R → Bool) (call : CallK R) (tm : T Value) (h : Hp) (o : Op) (ty : TypeId) (c : Value → Hp → An R) : An R := opFn o R J B call tm h c
/-- is it wanted? -/
noncomputable def wantedK' (ops : List Oper) (g : Option (Nat × Bool)) (tm : T Value) (c : Bool → An R) : An R :=
  match g with
  | none => c true
  | some (j, want) => match ops[j]? with
    | some o => (match o.dst with
      | some d => (match tm.find d with | some (.bool b) => c (b == want) | _ => c false)
      | none => c false)
    | none => c false
noncomputable def wantedK (ops : List Oper) (g : Option (Nat × Bool)) (tm : T Value) (c : Bool → An R) : An R :=
  Option.rec (motive := fun _ => (Bool → An R) → An R) (fun c => c true) (fun p c => wantedK' ops (some p) tm c) g c
theorem wantedK_eq (ops : List Oper) (g : Option (Nat × Bool)) (tm : T Value) (c : Bool → An R) : wantedK ops g tm c = wantedK' ops g tm c := by cases g <;> rfl
noncomputable def putTm' (tm : T Value) (d : Option Tmp) (ntm : Nat) (v : Value) (c : T Value → An R) : An R :=
  match d with
  | none => c tm
  | some d => match Nat.blt d ntm with | true => tm.putK (some v) d c | false => no 96
noncomputable def putTm (tm : T Value) (d : Option Tmp) (ntm : Nat) (v : Value) (c : T Value → An R) : An R :=
  Option.rec (motive := fun _ => An R) (c tm) (fun d => Bool.rec (motive := fun _ => An R) (no 96) (tm.putK (some v) d c) (Nat.blt d ntm)) d
theorem putTm_eq (tm : T Value) (d : Option Tmp) (ntm : Nat) (v : Value) (c : T Value → An R) : putTm tm d ntm v c = putTm' tm d ntm v c := by
  cases d with
  | none => rfl
  | some d => unfold putTm putTm'; simp only; cases Nat.blt d ntm <;> rfl
noncomputable def opsKI (J : R → R → Bool) (call : CallK R) (all : List Oper) (ntm : Nat) : List Oper → T Value → Hp → (T Value → Hp → An R) → An R
  | [], tm, h, c => c tm h
  | o :: r, tm, h, c => wantedK all o.guard tm fun
    | true => execK B J call tm h o.op o.type fun v h => putTm tm o.dst ntm v fun tm => opsKI J call all ntm r tm h c
    | false => putTm tm o.dst ntm undef fun tm => opsKI J call all ntm r tm h c
/-- operations one by one. -/
noncomputable def opsK (J : R → R → Bool) (call : CallK R) (all : List Oper) (ntm : Nat) (l : List Oper) (tm : T Value) (h : Hp) (c : T Value → Hp → An R) : An R :=
  List.rec (motive := fun _ => T Value → Hp → (T Value → Hp → An R) → An R) (fun tm h c => c tm h) (fun o _ ih tm h c => wantedK all o.guard tm fun w =>
    Bool.rec (motive := fun _ => An R) (putTm tm o.dst ntm undef fun tm => ih tm h c) (execK B J call tm h o.op o.type fun v h => putTm tm o.dst ntm v fun tm => ih tm h c) w) l tm h c
theorem opsK_nil (J : R → R → Bool) (call : CallK R) (all : List Oper) (ntm : Nat) (tm : T Value) (h : Hp) (c : T Value → Hp → An R) : opsK B J call all ntm [] tm h c = c tm h := rfl
theorem opsK_cons (J : R → R → Bool) (call : CallK R) (all : List Oper) (ntm : Nat) (o : Oper) (l : List Oper) (tm : T Value) (h : Hp) (c : T Value → Hp → An R) : opsK B J call all ntm (o :: l) tm h c =
    wantedK all o.guard tm fun
    | true => execK B J call tm h o.op o.type fun v h => putTm tm o.dst ntm v fun tm => opsK B J call all ntm l tm h c
    | false => putTm tm o.dst ntm undef fun tm => opsK B J call all ntm l tm h c := by
  show wantedK all o.guard tm _ = _
  congr 1
  funext w
  cases w <;> rfl
noncomputable def never {R : Type} (_ _ : R) : Bool := false
/-- in what way an operation may be moved about in a region that draws its order. -/
inductive Cls where
  | pure | read | alloc | loud
noncomputable def clsFn' : Op → ((R : Type) → Tab → (Cls → An R) → An R)
  | .move _ | .assign _ | .pick .. | .nilCheck _ | .unOp .. | .fieldAddr .. | .field .. | .indexAddr .. | .index .. | .extract .. | .makeInterface .. | .makeFunc .. | .slice .. | .build .. => fun R B c => c .pure
  | .binOp op .. => fun R B c => match op with | .eql | .neq => c .read | _ => c .pure
  | .load .. => fun R B c => c .read
  | .convert s d _ => fun R B c => und B s fun s => und B d fun d => match s, d with
    | .slice _, .slice _ => c .loud
    | .slice _, _ => c .read
    | _, .slice _ => c .alloc
    | _, _ => c .pure
  | .alloc .. | .box .. | .buildSlice .. | .makeSlice .. | .makeMap .. => fun R B c => c .alloc
  | .call cl => fun R B c => match cl.callee with
    | .builtin .len => c .read
    | .builtin .cap | .builtin .min | .builtin .max => c .pure
    | _ => c .loud
  | _ => fun R B c => c .loud
noncomputable def clsFn : Op → ((R : Type) → Tab → (Cls → An R) → An R) := @Op.rec (fun _ => ((R : Type) → Tab → (Cls → An R) → An R))
  (fun _ => fun R B c => c .pure)
  (fun _ => fun R B c => c .pure)
  (fun _ _ _ => fun R B c => c .pure)
  (fun _ => fun R B c => c .alloc)
  (fun _ _ => fun R B c => c .alloc)
  (fun _ _ => fun R B c => c .pure)
  (fun _ _ _ => fun R B c => c .alloc)
  (fun _ _ _ _ => fun R B c => c .loud)
  (fun _ _ => fun R B c => c .read)
  (fun _ _ _ => fun R B c => c .loud)
  (fun _ => fun R B c => c .loud)
  (fun _ => fun R B c => c .loud)
  (fun _ => fun R B c => c .pure)
  (fun op _ _ _ _ => fun R B c => match op with | .eql | .neq => c .read | _ => c .pure)
  (fun _ _ _ => fun R B c => c .pure)
  (fun s d _ => fun R B c => und B s fun s => und B d fun d => match s, d with
    | .slice _, .slice _ => c .loud
    | .slice _, _ => c .read
    | _, .slice _ => c .alloc
    | _, _ => c .pure)
  (fun _ _ => fun R B c => c .loud)
  (fun _ _ => fun R B c => c .pure)
  (fun _ _ _ => fun R B c => c .pure)
  (fun _ _ => fun R B c => c .alloc)
  (fun _ _ => fun R B c => c .loud)
  (fun _ _ _ => fun R B c => c .alloc)
  (fun _ _ _ _ _ => fun R B c => c .pure)
  (fun _ _ _ => fun R B c => c .pure)
  (fun _ _ _ => fun R B c => c .pure)
  (fun _ _ _ => fun R B c => c .pure)
  (fun _ _ _ => fun R B c => c .pure)
  (fun _ _ _ _ => fun R B c => c .loud)
  (fun _ _ _ _ => fun R B c => c .loud)
  (fun _ _ _ => fun R B c => c .loud)
  (fun _ _ _ _ => fun R B c => c .loud)
  (fun _ _ => fun R B c => c .loud)
  (fun _ _ => fun R B c => c .loud)
  (fun _ => fun R B c => c .loud)
  (fun _ _ _ _ => fun R B c => c .loud)
  (fun _ _ => fun R B c => c .pure)
  (fun cl => fun R B c => match cl.callee with
    | .builtin .len => c .read
    | .builtin .cap | .builtin .min | .builtin .max => c .pure
    | _ => c .loud)
  (fun _ => fun R B c => c .loud)
  (fun _ => fun R B c => c .loud)
  (fun _ => fun R B c => c .loud)
  (fun _ _ => fun R B c => c .loud)
  (fun _ _ _ => fun R B c => c .loud)
  (fun _ _ => fun R B c => c .loud)
theorem clsFn_eq (o : Op) : clsFn o = clsFn' o := by cases o <;> rfl
noncomputable def clsK (o : Op) (c : Cls → An R) : An R := clsFn o R B c
noncomputable def eq0 : Value → Value → Bool
  | .bool a, .bool b => a == b
  | .int k a, .int j b => k == j && a == b
  | .string a, .string b => a.data.toList == b.data.toList
  | .pointer none, .pointer none => true
  | .pointer (some ⟨k, o, none⟩), .pointer (some ⟨j, p, none⟩) => Nat.beq k j && Nat.beq o p
  | .slice none l c, .slice none m d => Nat.beq l m && Nat.beq c d
  | .slice (some ⟨k, o, none⟩) l c, .slice (some ⟨j, p, none⟩) m d => Nat.beq k j && Nat.beq o p && Nat.beq l m && Nat.beq c d
  | .map none, .map none => true
  | .map (some a), .map (some b) => Nat.beq a b
  | .nilFunc, .nilFunc => true
  | .nilIface, .nilIface => true
  | .iface t (.pointer (some ⟨k, o, none⟩)), .iface u (.pointer (some ⟨j, p, none⟩)) => Nat.beq t u && Nat.beq k j && Nat.beq o p
  | .func (.func f) ⟨[]⟩ ⟨[]⟩, .func (.func g) ⟨[]⟩ ⟨[]⟩ => Nat.beq f g
  | _, _ => false
noncomputable def eq0s : List Value → List Value → Bool
  | [], [] => true
  | a :: x, b :: y => eq0 a b && eq0s x y
  | _, _ => false
/-- are they alike? (false: who knows.) -/
noncomputable def eqS (a b : Value) : Bool :=
  match a, b with
  | .iface t (.agg ⟨x⟩), .iface u (.agg ⟨y⟩) => Nat.beq t u && eq0s x y
  | a, b => eq0 a b
noncomputable def eqSs : List Value → List Value → Bool
  | [], [] => true
  | a :: x, b :: y => eqS a b && eqSs x y
  | _, _ => false
noncomputable def eqV : Value → Value → Bool
  | .agg ⟨x⟩, .agg ⟨y⟩ => eqSs x y
  | x, y => eqS x y
/-- what must come ahead of each operation: edges go back. -/
noncomputable def edgeMask (ms : T Nat) (i : Nat) : List Edge → Nat → (Nat → An R) → An R
  | [], m, c => c m
  | e :: r, m, c => match Region.binds .any e with
    | true => (match Nat.blt e.on i with
      | true => edgeMask ms i r (Nat.lor (Nat.lor m (Nat.shiftLeft 1 e.on)) (match ms.find e.on with | some n => n | none => 0)) c
      | false => no 125)
    | false => edgeMask ms i r m c
noncomputable def maskK : List Oper → (i : Nat) → T Nat → (T Nat → An R) → An R
  | [], _, ms, c => c ms
  | o :: r, i, ms, c => edgeMask ms i o.after.toList 0 fun m => fN m fun m => ms.putK (some m) i fun ms => maskK r (Nat.succ i) ms c
noncomputable def opTmps (o : Op) : List Tmp := o.operands.toList.filterMap fun | .tmp t => some t | _ => none
noncomputable def maskOf (ms : T Nat) (i : Nat) : Nat := match ms.find i with | some m => m | none => 0
/-- operation i looks at the temporary t: whoever writes it in the region stands ahead of i, or behind. -/
noncomputable def lookOk (ms : T Nat) (i t : Nat) : List Oper → (j : Nat) → Bool
  | [], _ => true
  | o :: r, j => (match o.dst with | some d => !(Nat.beq d t) || Nat.testBit (maskOf ms i) j || (Nat.blt i j && Nat.testBit (maskOf ms j) i) | none => true) && lookOk ms i t r (Nat.succ j)
noncomputable def dstOk (d : Nat) : List Oper → Bool
  | [] => true
  | o :: r => (match o.dst with | some e => !(Nat.beq d e) | none => true) && dstOk d r
noncomputable def dstsOk : List Oper → Bool
  | [] => true
  | o :: r => (match o.dst with | some d => dstOk d r | none => true) && dstsOk r
noncomputable def guardTmp (all : List Oper) : Option (Nat × Bool) → List Tmp
  | some (j, _) => match all[j]? with | some o => o.dst.toList | none => []
  | none => []
noncomputable def looksOk (all : List Oper) (ms : T Nat) : List Oper → (i : Nat) → Bool
  | [], _ => true
  | o :: r, i => (opTmps o.op ++ guardTmp all o.guard).all (fun t => lookOk ms i t all 0) && looksOk all ms r (Nat.succ i)
abbrev Al := Nat × Nat × Blk
/-- of the blocks that the region has laid (number, name, block): those in m that are not in cm come into the heap. -/
noncomputable def addK (m cm : Nat) : List Al → T Blk → (T Blk → An R) → An R
  | [], t, c => c t
  | (i, k, b) :: r, t, c => match Nat.testBit m i && !(Nat.testBit cm i) with
    | true => t.putK (some b) k fun t => addK m cm r t c
    | false => addK m cm r t c
noncomputable def allK (cm : Nat) : List Al → T Blk → (T Blk → An R) → An R
  | [], t, c => c t
  | (i, k, b) :: r, t, c => match Nat.testBit cm i with
    | true => allK cm r t c
    | false => t.putK (some b) k fun t => allK cm r t c
noncomputable def mayAlloc (o : Oper) : Bool := match o.op with | .alloc _ | .box .. | .buildSlice .. | .makeSlice .. | .makeMap .. | .convert .. => true | _ => false
/-- what came of an operation. -/
inductive Row where
  | off
  | pure
  | read (tm : T Value) (v : Value)
  | alloc (k : Nat) (b : Blk)
  | loud (h : Hp)
/-- a region in the text's order. -/
noncomputable def rowsK (call : CallK R) (call1 : CallK (Value × Hp)) (all : List Oper) (ms : T Nat) (ntm base : Nat) : List Oper → (i : Nat) → T Value → Hp → (cm : Nat) → (last : Option Nat) → List Al → (List Row → T Value → Hp → Nat → List Al → An R) → An R
  | [], _, tm, h, cm, _, als, c => c [] tm h cm als
  | o :: r, i, tm, h, cm, last, als, c => wantedK all o.guard tm fun w => match w with
    | false => putTm tm o.dst ntm undef fun tm => rowsK call call1 all ms ntm base r (Nat.succ i) tm h cm last als fun rows => c (.off :: rows)
    | true => clsK B o.op fun k => match k with
      | .pure => execK B never call tm h o.op o.type fun v _ => putTm tm o.dst ntm v fun tm => rowsK call call1 all ms ntm base r (Nat.succ i) tm h cm last als fun rows => c (.pure :: rows)
      | .read => addK (maskOf ms i) cm als h.t fun t => execK B never call tm ⟨t, h.next⟩ o.op o.type fun v _ =>
          putTm tm o.dst ntm v fun tm' => rowsK call call1 all ms ntm base r (Nat.succ i) tm' h cm last als fun rows => c (.read tm v :: rows)
      | .alloc => fN (Nat.add base i) fun k => execK B never call tm ⟨.nil, k⟩ o.op o.type fun v h' => match h'.t.find k with
          | some b => putTm tm o.dst ntm v fun tm => rowsK call call1 all ms ntm base r (Nat.succ i) tm h cm last ((i, k, b) :: als) fun rows => c (.alloc k b :: rows)
          | none => no 122
      | .loud => match (match last with | none => true | some e => Nat.testBit (maskOf ms i) e) with
        | true => addK (maskOf ms i) cm als h.t fun t => match execK B never call1 tm ⟨t, h.next⟩ o.op o.type (fun v h2 => .ok (v, h2)) with
          | .ok (v, h2) => (match Nat.ble h.next h2.next with
            | true => putTm tm o.dst ntm v fun tm => rowsK call call1 all ms ntm base r (Nat.succ i) tm h2 (maskOf ms i) (some i) als fun rows => c (.loud h2 :: rows)
            | false => no 126)
          | .error x => .error x
        | false => no 123
noncomputable def loudsOf : List Row → (i : Nat) → List (Nat × Hp)
  | [], _ => []
  | .loud h :: r, i => (i, h) :: loudsOf r (Nat.succ i)
  | _ :: r, i => loudsOf r (Nat.succ i)
noncomputable def loudMask : List (Nat × Hp) → Nat
  | [] => 0
  | (e, _) :: r => Nat.lor (Nat.shiftLeft 1 e) (loudMask r)
/-- a reading, at one more stage. -/
noncomputable def againK (call : CallK R) (m cm : Nat) (tm : T Value) (o : Oper) (v : Value) (als : List Al) (h : Hp) (c : An R) : An R :=
  addK m cm als h.t fun t => execK B never call tm ⟨t, h.next⟩ o.op o.type fun v' _ => match eqV v v' with | true => c | false => no 120
noncomputable def stagesK (call : CallK R) (ms : T Nat) (i bits : Nat) (tm : T Value) (o : Oper) (v : Value) (als : List Al) : List (Nat × Hp) → An R → An R
  | [], c => c
  | (e, h) :: r, c => match Nat.testBit (maskOf ms e) i, Nat.blt bits (Nat.shiftLeft 1 (Nat.succ e)) with
    | false, true => againK B call (maskOf ms i) (maskOf ms e) tm o v als h <| stagesK call ms i bits tm o v als r c
    | _, _ => stagesK call ms i bits tm o v als r c
/-- every reading is the same at every stage at which it may come up. -/
noncomputable def readsK (call : CallK R) (ms : T Nat) (h0 : Hp) (louds : List (Nat × Hp)) (lm : Nat) (als : List Al) : List Row → List Oper → (i : Nat) → An R → An R
  | .read tm v :: rows, o :: ops, i, c => fN (Nat.land (maskOf ms i) lm) fun bits => match Nat.beq bits 0 with
    | true => againK B call (maskOf ms i) 0 tm o v als h0 <| stagesK B call ms i bits tm o v als louds <| readsK call ms h0 louds lm als rows ops (Nat.succ i) c
    | false => stagesK B call ms i bits tm o v als louds <| readsK call ms h0 louds lm als rows ops (Nat.succ i) c
  | _ :: rows, _ :: ops, i, c => readsK call ms h0 louds lm als rows ops (Nat.succ i) c
  | _, _, _, c => c
/-- nothing is laid, nothing is called. -/
noncomputable def stillRows : List Row → Bool
  | [] => true
  | .off :: r => stillRows r
  | .pure :: r => stillRows r
  | .read _ _ :: r => stillRows r
  | _ => false
/-- what is known of a region ahead: what must come ahead of what. -/
noncomputable def planOf (ops : List Oper) : An (T Nat) := maskK ops 0 .nil fun ms => match dstsOk ops && looksOk ops ms ops 0 with | true => .ok ms | false => no 124
/-- a region that draws its order: the text's order, and whatever another order might read is read. -/
noncomputable def drawK (call : CallK R) (call1 : CallK (Value × Hp)) (ops : List Oper) (ntm : Nat) (tm : T Value) (h : Hp) (c : T Value → Hp → An R) : An R :=
  match planOf ops with
  | .ok ms => fN (Nat.add h.next (match ops.any mayAlloc with | true => ops.length | false => 0)) fun nx =>
        rowsK B call call1 ops ms ntm h.next ops 0 tm ⟨h.t, nx⟩ 0 none [] fun rows tm' h' cm als =>
          match stillRows rows with
          | true => c tm' h'
          | false => readsK B call ms ⟨h.t, nx⟩ (loudsOf rows 0) (loudMask (loudsOf rows 0)) als rows ops 0 <|
            allK cm als h'.t fun t => c tm' ⟨t, h'.next⟩
  | .error x => .error x
/-- as many temporaries as there may be, all without a value. -/
noncomputable def fullT : Nat → T Value
  | 0 => .nil
  | d + 1 => .node (fullT d) (some undef) (fullT d)
noncomputable def depthOf (n : Nat) : Nat := Nat.succ (Nat.log2 n)
noncomputable def initTm : List Value → (i : Nat) → T Value → (T Value → An R) → An R
  | [], _, t, c => c t
  | v :: r, i, t, c => t.putK (some v) i fun t => initTm r (Nat.succ i) t c
noncomputable def setParams : List Tmp → List Value → T Value → Nat → (T Value → An R) → An R
  | [], [], t, _, c => c t
  | p :: ps, v :: vs, t, n, c => putTm t (some p) n v fun t => setParams ps vs t n c
  | _, _, _, _, _ => no 97
noncomputable def popK : List Nat → Hp → (Hp → An R) → An R
  | [], h, c => c h
  | d :: r, h, c => match h.t.find d with
    | some (.deferred true) => h.t.putK (some (.deferred false)) d fun t => popK r ⟨t, h.next⟩ c
    | _ => no 98
noncomputable def resultK (rs : List ResultVar) (tm : T Value) (h : Hp) (c : List Value → An R) : An R :=
  match rs with
  | [] => c []
  | .tmp t :: r => opd tm (.tmp t) fun v => resultK r tm h fun l => c (v :: l)
  | .cell a t :: r => opd tm (.tmp a) fun a => loadAt B t a h fun v => resultK r tm h fun l => c (v :: l)
noncomputable def tupleK (l : List Value) (c : Value → An R) : An R := match l with | [v] => c v | l => c (.tuple ⟨l⟩)
abbrev EvK (R : Type) := Code → St → (Exit → St → An R) → An R
/-- a call of a function of the program. -/
noncomputable def enterK (ev : EvK R) (f : FuncId) (vs : List Value) (h : Hp) (c : Value → Hp → An R) : An R :=
  match B.fn.find f with
  | some fd => (match fd.body with
    | some b => match Nat.ble vs.length fd.ntmps with
      | true => initTm vs 0 (fullT (depthOf fd.ntmps)) fun tm => ev b ⟨tm, h, fd.ntmps, f, none, []⟩ fun e st => match e with
        | .normal | .ret => popK st.defers st.hp fun h => resultK B fd.results.toList st.tm h fun l => tupleK l fun v => c v h
        | _ => no 103
      | false => no 115
    | none => no (1000 + f))
  | none => no (1000 + f)
/-- the round's end. -/
noncomputable def finK (l : Nat) (fn : FuncId) (ntm : Nat) (tm : T Value) (ps : List Tmp) (assign body : Code) (df : Nat) (h : Hp) (s : LoopState) (p : Option Code) (b : Bool) (c : Value → Hp → An R) : An R :=
  h.t.putK (some (.loop s p fn ntm tm ps assign body df)) l fun t => c (.bool b) ⟨t, h.next⟩
/-- a round of a range over a function. -/
noncomputable def roundK (ev : EvK R) (l : Nat) (args : List Value) (h : Hp) (c : Value → Hp → An R) : An R :=
  match h.t.find l with
  | some (.loop .ready _ fn ntm tm ps assign body df) => setParams ps args tm ntm fun tm0 =>
    ev assign ⟨tm0, h, ntm, fn, some l, []⟩ fun e st1 => match e with
      | .normal => (match st1.hp.t.find l with
        | some (.loop .ready p1 fn1 ntm1 tm1 ps1 as1 bd1 df1) =>
          st1.hp.t.putK (some (.loop .busy p1 fn1 ntm1 tm1 ps1 as1 bd1 df1)) l fun t => ev body { st1 with hp := ⟨t, st1.hp.next⟩ } fun e st2 =>
            match st2.hp.t.find l with
            | some (.loop _ _ fn2 ntm2 tm2 ps2 as2 bd2 df2) => (match e with
              | .normal => finK l fn2 ntm2 tm2 ps2 as2 bd2 df2 st2.hp .ready none true c
              | .ret => finK l fn2 ntm2 tm2 ps2 as2 bd2 df2 st2.hp .done (some .ret) false c
              | .exit id => finK l fn2 ntm2 tm2 ps2 as2 bd2 df2 st2.hp .done (some (.exit id)) false c
              | _ => no 104)
            | _ => no 104
        | _ => no 105)
      | _ => no 106
  | _ => no 107
noncomputable def eqB : List Value → List Nat → Bool
  | [], [] => true
  | .int .u8 (.ofNat n) :: x, m :: y => Nat.beq n m && eqB x y
  | _, _ => false
noncomputable def memoFind (f : FuncId) (l : List Value) : List (FuncId × List Nat × List Value) → Option (List Value)
  | [] => none
  | (g, d, v) :: r => match Nat.beq f g && eqB l d with | true => some v | false => memoFind f l r
/-- a number, a text, a truth value. -/
noncomputable def plainV : Value → Bool | .int _ _ | .string _ | .bool _ => true | _ => false
noncomputable def eqPs : List Value → List Value → Bool
  | [], [] => true
  | a :: x, b :: y => plainV b && (eqS a b && eqPs x y)
  | _, _ => false
/-- what is told of one list of arguments. -/
noncomputable def told (d : List Value) (v : Value) (l : List Value) : Option Value := match eqPs l d with | true => some v | false => none
noncomputable def tellFind (f : FuncId) (l : List Value) : List (FuncId × (List Value → Option Value)) → Option Value
  | [] => none
  | (g, d) :: r => match Nat.beq f g with
    | true => (match d l with | some v => some v | none => tellFind f l r)
    | false => tellFind f l r
/-- a number, reckoned to its end. -/
noncomputable def forceK (v : Value) (c : Value → An R) : An R := match v with | .int k (.ofNat n) => fN n fun n => c (.int k (.ofNat n)) | v => c v
/-- a function whose value for these is known. -/
noncomputable def tellK (f : FuncId) (l : List Value) (h : Hp) (c : Value → Hp → An R) : An R :=
  match tellFind f l B.tell with | some v => forceK v fun v => c v h | none => no 128
noncomputable def isUndef : Value → Bool | .tuple ⟨[]⟩ => true | _ => false
/-- are they alike? (undef, too.) -/
noncomputable def eqU (a b : Value) : Bool := match isUndef a with | true => isUndef b | false => eqS a b
noncomputable def eqO : Option Value → Option Value → Bool
  | none, none => true
  | some a, some b => eqU a b
  | _, _ => false
noncomputable def eqTrI : T Value → T Value → Bool
  | .nil, .nil => true
  | .node l v r, .node l' v' r' => eqO v v' && (eqTrI l l' && eqTrI r r')
  | .shift n t, .shift n' t' => Nat.beq n n' && eqTrI t t'
  | _, _ => false
noncomputable def eqTr (t : T Value) : T Value → Bool :=
  T.rec (motive := fun _ => T Value → Bool) (fun u => T.rec (motive := fun _ => Bool) true (fun _ _ _ _ _ => false) (fun _ _ _ => false) u)
    (fun _ v _ fl fr u => T.rec (motive := fun _ => Bool) false (fun l' v' r' _ _ => eqO v v' && (fl l' && fr r')) (fun _ _ _ => false) u)
    (fun n _ f u => T.rec (motive := fun _ => Bool) false (fun _ _ _ _ _ => false) (fun n' t' _ => Nat.beq n n' && f t') u) t
noncomputable def eqEs : List MapEntry → List MapEntry → Bool
  | [], [] => true
  | a :: x, b :: y => (eqS a.key b.key && (eqS a.val b.val && Nat.beq a.born b.born)) && eqEs x y
  | _, _ => false
/-- are two blocks alike? -/
noncomputable def eqBlk : Blk → Blk → Bool
  | .cells n e z m p d t, .cells n' e' z' m' p' d' t' => (Nat.beq n n' && (Nat.beq e e' && (Nat.beq z z' && (m == m' && p == p')))) && (eqU d d' && eqTr t t')
  | .map es k, .map es' k' => Nat.beq k k' && eqEs es es'
  | _, _ => false
noncomputable def subB (t : T Blk) : List (Nat × Blk) → Bool
  | [] => true
  | (k, b) :: r => (match t.find k with | some b' => eqBlk b' b | none => false) && subB t r
noncomputable def eqVs : List Value → List Value → Bool
  | [], [] => true
  | a :: x, b :: y => eqV a b && eqVs x y
  | _, _ => false
noncomputable def ruleOk (q : Rule) (x : List Value) (h : Hp) : Bool := eqVs x q.x0 && (Nat.beq h.next q.n0 && subB h.t q.l0)
noncomputable def ruleFind (f : FuncId) (x : List Value) (h : Hp) : List Rule → Option Rule
  | [] => none
  | q :: r => match Nat.beq f q.f with
    | true => (match ruleOk q x h with | true => some q | false => ruleFind f x h r)
    | false => ruleFind f x h r
noncomputable def dropK : List (Nat × Blk) → T Blk → (T Blk → An R) → An R
  | [], t, c => c t
  | (k, _) :: r, t, c => t.putK none k fun t => dropK r t c
noncomputable def addsK : List (Nat × Blk) → T Blk → (T Blk → An R) → An R
  | [], t, c => c t
  | (k, b) :: r, t, c => t.putK (some b) k fun t => addsK r t c
/-- a call whose work is known, or its value. -/
noncomputable def tellR (f : FuncId) (l : List Value) (h : Hp) (c : Value → Hp → An R) : An R :=
  match ruleFind f l h B.rules with
  | some q => dropK q.l0 h.t fun t => addsK q.l1 t fun t => c q.v1 ⟨t, q.n1⟩
  | none => tellK B f l h c
/-- a function of bytes whose value for these is known. -/
noncomputable def memoK (f : FuncId) (x : Value) (h : Hp) (c : Value → Hp → An R) : An R :=
  match x with
  | .slice (some ⟨k, off, none⟩) (Nat.succ n) cap => (match Nat.ble cap TOP with
    | true => firstK 1 (Nat.succ n) x h fun l => match memoFind f l B.memo with | some vs => c (.agg ⟨vs⟩) h | none => no 127
    | false => no 127)
  | x => tellR B f [x] h c
noncomputable def callK (ev : EvK R) : CallK R := fun fn first args cap h c =>
  match fn with
  | .func f => (match B.ext.contains f with
   | true => cloneK (first ++ (args ++ cap)) h c
   | false => match B.ins.contains f, first, args, cap with
    | true, [], [s, i, v], [] => (match B.fn.find f with
      | some fd => (match fd.params.toList with | [sT, _, _] => insertK B sT s i v h c | _ => no 101)
      | none => no 102)
    | true, [], [x], [] => memoK B f x h c
    | true, [], [], [] => tellK B f [] h c
    | true, [], [x, y], [] => tellR B f [x, y] h c
    | _, _, _, _ => enterK B ev f (first ++ (args ++ cap)) h c)
  | .yield l => (match first, cap with | [], [] => roundK ev l args h c | _, _ => no 107)
  | _ => no 108
/-- what comes behind the function that was ranged over. -/
noncomputable def behindK (ev : EvK R) (st : St) (l : Nat) (defers : List Nat) (K : Exit → St → An R) (h : Hp) : An R :=
  match h.t.find l with
  | some (.loop s p fn2 ntm tm ps2 as2 body2 df2) => (match s with
    | .busy => no 110
    | _ => h.t.putK (some (.loop .exhausted p fn2 ntm tm ps2 as2 body2 df2)) l fun t => match p with
      | none => K .normal { st with hp := ⟨t, h.next⟩, defers := defers }
      | some cd => ev cd { st with hp := ⟨t, h.next⟩, defers := defers } K)
  | _ => no 111
noncomputable def rangeGo (ev : EvK R) (st : St) (fn : Fn) (first cap : List Value) (ps : List Tmp) (assign body : Code) (K : Exit → St → An R) (df : Nat) (defers : List Nat) (h : Hp) : An R :=
  match fn with
  | .func f => match B.ext.contains f with
   | true => no 113
   | false => newBlk (.loop .ready none st.fn st.ntm st.tm ps assign body df) h fun l h =>
      callK B ev (.func f) first [.func (.yield l) #[] #[]] cap h fun _ h => behindK ev st l defers K h
  | _ => no 113
noncomputable def rangeK (ev : EvK R) (st : St) (g : Operand) (ps : List Tmp) (assign body : Code) (K : Exit → St → An R) : An R :=
  opd st.tm g fun
    | .func fn first cap => (match st.round with
      | none => newBlk (.deferred true) st.hp fun d h => rangeGo B ev st fn first.toList cap.toList ps assign body K d (d :: st.defers) h
      | some l => match st.hp.t.find l with | some (.loop _ _ _ _ _ _ _ _ df) => rangeGo B ev st fn first.toList cap.toList ps assign body K df st.defers st.hp | _ => no 112)
    | _ => no 113
abbrev Rec := (R : Type) → (R → R → Bool) → EvK R
/-- an if. -/
noncomputable def boolK (v : Value) (a b : Unit → An R) : An R := match v with | .bool true => a () | .bool false => b () | _ => no 109
noncomputable def evFn' : Code → ((R : Type) → (R → R → Bool) → Tab → Rec → St → (Exit → St → An R) → An R)
  | .skip => fun R J B ev st K => K .normal st
  | .seq a b => fun R J B ev st K => ev R J a st fun e st => match e with | .normal => ev R J b st K | e => K e st
  | .cond c a b => fun R J B ev st K => opd st.tm c fun v => boolK v (fun _ => ev R J a st K) (fun _ => ev R J b st K)
  | .block id b => fun R J B ev st K => ev R J b st fun e st => match e with | .exit j => (match Nat.beq j id with | true => K .normal st | false => K (.exit j) st) | e => K e st
  | .loop b => fun R J B ev st K => ev R J b st fun e st => match e with | .normal => ev R J (.loop b) st K | e => K e st
  | .exit id => fun R J B ev st K => K (.exit id) st
  | .ret => fun R J B ev st K => K .ret st
  | .region _ ops draw => fun R J B ev st K => match st with
    | ⟨tm, hp, ntm, fn, round, defers⟩ => match draw with
      | false => opsK B J (callK B (ev R J)) ops.toList ntm ops.toList tm hp fun tm h => K .normal ⟨tm, h, ntm, fn, round, defers⟩
      | true => drawK B (callK B (ev R J)) (callK B (ev (Value × Hp) never)) ops.toList ntm tm hp fun tm h => K .normal ⟨tm, h, ntm, fn, round, defers⟩
  | .rangeFunc g ps assign body => fun R J B ev st K => rangeK B (ev R J) st g ps.toList assign body K
  | _ => fun R J B ev st K => no 114
noncomputable def evFn : Code → ((R : Type) → (R → R → Bool) → Tab → Rec → St → (Exit → St → An R) → An R) := @Code.rec (fun _ => ((R : Type) → (R → R → Bool) → Tab → Rec → St → (Exit → St → An R) → An R))
  (fun R J B ev st K => K .normal st)
  (fun _ ops draw => fun R J B ev st K => match st with
    | ⟨tm, hp, ntm, fn, round, defers⟩ => match draw with
      | false => opsK B J (callK B (ev R J)) ops.toList ntm ops.toList tm hp fun tm h => K .normal ⟨tm, h, ntm, fn, round, defers⟩
      | true => drawK B (callK B (ev R J)) (callK B (ev (Value × Hp) never)) ops.toList ntm tm hp fun tm h => K .normal ⟨tm, h, ntm, fn, round, defers⟩)
  (fun a b _ _ => fun R J B ev st K => ev R J a st fun e st => match e with | .normal => ev R J b st K | e => K e st)
  (fun c a b _ _ => fun R J B ev st K => opd st.tm c fun v => boolK v (fun _ => ev R J a st K) (fun _ => ev R J b st K))
  (fun id b _ => fun R J B ev st K => ev R J b st fun e st => match e with | .exit j => (match Nat.beq j id with | true => K .normal st | false => K (.exit j) st) | e => K e st)
  (fun b _ => fun R J B ev st K => ev R J b st fun e st => match e with | .normal => ev R J (.loop b) st K | e => K e st)
  (fun g ps assign body _ _ => fun R J B ev st K => rangeK B (ev R J) st g ps.toList assign body K)
  (fun id => fun R J B ev st K => K (.exit id) st)
  (fun _ _ => fun R J B ev st K => no 114)
  (fun _ => fun R J B ev st K => no 114)
  (fun _ => fun R J B ev st K => no 114)
  (fun R J B ev st K => K .ret st)
  (fun _ => fun R J B ev st K => no 114)
theorem evFn_eq (cd : Code) : evFn cd = evFn' cd := by cases cd <;> rfl
noncomputable def evI : Nat → (R : Type) → (R → R → Bool) → Code → St → (Exit → St → An R) → An R
  | 0, _, _, _, _, _ => no 100
  | n + 1, R, J, cd, st, K => evFn cd R J B (evI n) st K
/-- code. -/
noncomputable def ev (n : Nat) : (R : Type) → (R → R → Bool) → Code → St → (Exit → St → An R) → An R :=
  Nat.rec (motive := fun _ => (R : Type) → (R → R → Bool) → Code → St → (Exit → St → An R) → An R) (fun _ _ _ _ _ => no 100) (fun _ ih R J cd st K => evFn cd R J B ih st K) n
theorem ev_succ (n : Nat) (J : R → R → Bool) (cd : Code) (st : St) (K : Exit → St → An R) : ev B (n + 1) R J cd st K = evFn cd R J B (ev B n) st K := rfl
end
end Go.Ev
