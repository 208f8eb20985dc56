/- From the loaded program's code to the small language: a closed computation, asked of the kernel function by function. -/
import Derived.Test.YtjkedjjahjlmfaaFw2
import GoSem.ClaimKeys
namespace Go.Dn
set_option linter.unusedVariables false

def aggT (P : Program) (t : TypeId) : Bool :=
  match P.underlying t with
  | some (.struct _) => true
  | some (.array _ _) => true
  | _ => false

def okT (P : Program) (t : TypeId) : Bool := (P.underlying t).isSome

def concT (P : Program) (t : TypeId) : Bool :=
  match P.underlying t with
  | some (.interface _) => false
  | none => false
  | _ => true

def leafD : Value → Option D
  | .int k n => some (.int k n)
  | .bool b => some (.bool b)
  | .string s => some (.str s.data.toList)
  | .pointer none => some .nilp
  | .slice none 0 0 => some .nils
  | .map none => some .nilm
  | .nilFunc => some .nilf
  | .nilIface => some .nili
  | _ => none

def leafsD : List Value → Option (List D)
  | [] => some []
  | v :: r => match leafD v, leafsD r with
    | some d, some l => some (d :: l)
    | _, _ => none

def constO : Value → Option Opd
  | .agg cs => match leafsD cs.toList with
    | some l => some (.ca l)
    | none => none
  | v => match leafD v with
    | some d => some (.c d)
    | none => none

/-- The cells of a type's zero value. -/
def zeroOf (P : Program) (t : TypeId) : Option (List D) :=
  match P.info? t with
  | some i => match i.zero with
    | some z => leafsD z.cells.toList
    | none => none
  | none => none

/-- A type's zero value, as an operand. -/
def zeroX (P : Program) (t : TypeId) : Option Opd :=
  match P.info? t with
  | some i => match i.zero with
    | some z => constO z
    | none => none
  | none => none

def compOpd : Operand → Option Opd
  | .tmp t => some (.t t)
  | .const v => constO v
  | .func f => some (.f f)
  | .global _ => none

def compOpds : List Operand → Option (List Opd)
  | [] => some []
  | x :: r => match compOpd x, compOpds r with
    | some a, some l => some (a :: l)
    | _, _ => none

def leavesFs (P : Program) (f : TypeId → Option (List Lf)) : Nat → List Field → Option (List Lf)
  | _, [] => some []
  | off, x :: r => match f x.type with
    | some l => if x.name ≠ "_" ∧ x.offset = off ∧ P.cellsOf x.type = l.length then
        (match leavesFs P f (off + l.length) r with
         | some b => some (l ++ b)
         | none => none) else none
    | none => none

def leavesOf (P : Program) : Nat → TypeId → Option (List Lf)
  | 0, _ => none
  | n + 1, t => match P.underlying t with
    | some (.int k) => some [.int k]
    | some .bool => some [.bool]
    | some .string => some [.str]
    | some (.array len e) => match leavesOf P n e with
      | some l => if P.cellsOf e = l.length ∧ P.cellsOf t = len * l.length then some ((List.replicate len l).flatten) else none
      | none => none
    | some (.struct fs) => match leavesFs P (leavesOf P n) 0 fs.toList with
      | some l => if P.cellsOf t = l.length then some l else none
      | none => none
    | _ => none

def flatOf (P : Program) (t : TypeId) : Option (Ty × List Lf) :=
  match leavesOf P 12 t with
  | some ks => if P.keyTypeAt 12 t && !P.eqGuardType P.depth t then some (.flat, ks) else none
  | none => none

def compTy (P : Program) (t : TypeId) : Option (Ty × List Lf) :=
  match P.underlying t with
  | some (.int _) => some (.int, [])
  | some .bool => some (.bool, [])
  | some .string => some (.str, [])
  | some (.pointer _) => some (.ptr, [])
  | some (.slice _) => some (.slice, [])
  | some (.map _ _) => some (.map, [])
  | some (.func ..) => some (.func, [])
  | some (.interface _) => some (.iface, [])
  | some (.array ..) => flatOf P t
  | some (.struct _) => flatOf P t
  | _ => none

def fieldOf (P : Program) (t : TypeId) (i : Nat) : Option (Nat × TypeId) :=
  match P.underlying t with
  | some (.struct fs) => match fs[i]? with
    | some f => if P.cellsOf f.type = 0 ∨ okT P f.type = false then none else some (f.offset, f.type)
    | none => none
  | _ => none

def compConv (P : Program) (src dst : TypeId) : Option Conv :=
  match P.underlying src, P.underlying dst with
  | some (.int _), some (.int k) => some (.int k)
  | some .string, some .string => some .same
  | some .string, some (.slice e) => match P.underlying e with | some (.int .u8) => some (.strBytes e) | _ => none
  | some (.slice e), some .string => match P.underlying e with | some (.int .u8) => some .bytesStr | _ => none
  | _, _ => none

def optOpd : Option Operand → Option (Option Opd)
  | none => some none
  | some x => match compOpd x with | some a => some (some a) | none => none

def partsOf : List (Nat × Operand) → Option (List (Nat × Opd))
  | [] => some []
  | (i, x) :: r => match compOpd x, partsOf r with
    | some a, some l => some ((i, a) :: l)
    | _, _ => none

def hasInfo (P : Program) (t : TypeId) : Bool := (P.info? t).isSome

/-- Parts of a struct or an array: their places. -/
def placeOf (P : Program) (t : TypeId) (i : Nat) : Option (Nat × Nat) :=
  match P.underlying t with
  | some (.struct fs) => if fs.toList.all (fun f => hasInfo P f.type) then (match fs[i]? with | some f => some (f.offset, P.cellsOf f.type) | none => none) else none
  | some (.array _ e) => if hasInfo P e then some (i * P.cellsOf e, P.cellsOf e) else none
  | _ => none

def placesOf (P : Program) (t : TypeId) : List (Nat × Operand) → Option (List (Nat × Nat × Opd))
  | [] => some []
  | (i, x) :: r => match placeOf P t i, compOpd x, placesOf P t r with
    | some (o, n), some a, some l => some ((o, n, a) :: l)
    | _, _, _ => none

/-- New rows of a type can be laid. -/
def growOk (P : Program) (e : TypeId) : Bool :=
  match zeroOf P e with
  | some z => P.cellsOf e != 0 && z.length == P.cellsOf e
  | none => false

def compBuiltin (P : Program) (dst : Option Nat) (c : Go.Call) (b : Builtin) : Option Ins :=
  match b with
  | .len => match c.argTypes[0]?, compOpds c.args.toList with
    | some t, some [x] => match P.underlying t with
      | some (.array n _) => some (.p dst (.lenArr n))
      | some .string => some (.p dst (.len .str x))
      | some (.slice _) => some (.p dst (.len .slice x))
      | some (.map _ _) => some (.p dst (.len .map x))
      | _ => none
    | _, _ => none
  | .append => match c.argTypes[0]?, c.argTypes[1]?, compOpds c.args.toList with
    | some s, some x, some [a, b] => match P.underlying s with
      | some (.slice e) => match P.underlying x with
        | some (.slice _) => if growOk P e then some (.e dst (.append e (P.cellsOf e) (P.bytesOf e) a b)) else none
        | some .string => if growOk P e ∧ P.cellsOf e = 1 ∧ P.bytesOf e = 1 then some (.e dst (.appendStr e a b)) else none
        | some (.int _) => match zeroOf P e with
          | some z => some (.e dst (.appendZero e (P.cellsOf e) (P.bytesOf e) z a b))
          | none => none
        | _ => none
      | _ => none
    | _, _, _ => none
  | .copy => match c.argTypes[0]?, c.argTypes[1]?, compOpds c.args.toList with
    | some s, some x, some [a, b] => match P.underlying s, P.underlying x with
      | some (.slice e), some (.slice _) => if P.cellsOf e = 0 then none else some (.e dst (.copy (P.cellsOf e) a b))
      | _, _ => none
    | _, _, _ => none
  | .clear => match c.argTypes[0]?, compOpds c.args.toList with
    | some s, some [a] => match P.underlying s with
      | some (.slice e) => match zeroOf P e with
        | some z => if P.cellsOf e = 0 ∨ z.length ≠ P.cellsOf e then none else some (.e dst (.clear (P.cellsOf e) z a))
        | none => none
      | _ => none
    | _, _ => none
  | .min => match compOpds c.args.toList with | some l => some (.p dst (.min l)) | none => none
  | .max => match compOpds c.args.toList with | some l => some (.p dst (.max l)) | none => none
  | .delete => match compOpds c.args.toList with | some [m, k] => some (.e dst (.mapDelete m k)) | _ => none
  | _ => none

def compCall (P : Program) (dst : Option Nat) (ty : TypeId) (c : Go.Call) : Option Ins :=
  match c.callee with
  | .value (.func f) => match compOpds c.args.toList with
    | some l => match P.funcs[f]? with
      | some fn => if fn.body.isSome ∧ fn.name ≠ "runtime.NumGoroutine" then some (.call dst f l) else none
      | none => none
    | none => none
  | .value (.tmp t) => match compOpds c.args.toList with | some l => some (.callv dst (.t t) l) | none => none
  | .builtin b => compBuiltin P dst c b
  | _ => none

def compOp (P : Program) (o : Oper) : Option Ins :=
  let p (x : Option POp) : Option Ins := match x with | some op => some (.p o.dst op) | none => none
  let un (x : Operand) (f : Opd → Option POp) : Option Ins := match compOpd x with | some a => p (f a) | none => none
  let bi (x y : Operand) (f : Opd → Opd → Option POp) : Option Ins := match compOpd x, compOpd y with | some a, some b => p (f a b) | _, _ => none
  match o.op with
  | .move x => un x fun a => some (.move a)
  | .assign x => un x fun a => some (.move a)
  | .pick c a b => match compOpd c with
    | some c => bi a b fun a b => some (.pick c a b)
    | none => none
  | .binOp op t x y _ => match compTy P t with
    | some (ty, ks) => bi x y fun a b => some (.bin op ty ks a b)
    | none => none
  | .unOp op _ x => un x fun a => some (.una op a)
  | .convert s d x => match compConv P s d with
    | some k => un x fun a => some (.conv k a)
    | none => none
  | .load t a => if okT P t then un a fun a => some (.load (aggT P t) (P.cellsOf t) a) else none
  | .nilCheck x => un x fun a => some (.nilCheck a)
  | .fieldAddr s x f => match fieldOf P s f with
    | some (off, _) => un x fun a => some (.faddr off a)
    | none => none
  | .field s x f => match fieldOf P s f with
    | some (off, t) => un x fun a => some (.field (aggT P t) off (P.cellsOf t) a)
    | none => none
  | .indexAddr t x i => match P.underlying t with
    | some (.slice e) => if P.cellsOf e = 0 then none else bi x i fun a b => some (.iaddr (P.cellsOf e) a b)
    | some (.array n e) => if P.cellsOf e = 0 then none else bi x i fun a b => some (.iaddrArr n (P.cellsOf e) a b)
    | _ => none
  | .index t x i => match P.underlying t with
    | some .string => bi x i fun a b => some (.indexStr a b)
    | some (.array n e) => if P.cellsOf e = 0 ∨ okT P e = false then none else bi x i fun a b => some (.index (aggT P e) n (P.cellsOf e) a b)
    | _ => none
  | .slice t x lo hi mx => match P.underlying t, optOpd lo, optOpd hi, optOpd mx with
    | some .string, some l, some h, some none => un x fun a => some (.sliceStr a l h)
    | some (.slice e), some l, some h, some m => if P.cellsOf e = 0 then none else un x fun a => some (.slice (P.cellsOf e) a l h m)
    | some (.array n e), some l, some h, some none => if P.cellsOf e = 0 then none else un x fun a => some (.sliceArr n (P.cellsOf e) a l h)
    | _, _, _, _ => none
  | .buildSlice t len parts => match P.underlying t with
    | some (.slice e) => match zeroOf P e, partsOf parts.toList with
      | some z, some l => if P.cellsOf e = 0 ∨ len * P.cellsOf e > 2 ^ 24 ∨ z.length ≠ P.cellsOf e then none else p (some (.bslice e len (P.cellsOf e) z l))
      | _, _ => none
    | _ => none
  | .build t parts => match zeroOf P t, placesOf P t parts.toList with
    | some z, some l => if (match P.underlying t with | some (.struct fs) => fs.toList.all (fun f => hasInfo P f.type) | some (.array _ e) => hasInfo P e | _ => false) then p (some (.build z l)) else none
    | _, _ => none
  | .makeInterface t x => if concT P t then un x fun a => some (.mkif t a) else none
  | .typeAssert x _ t ok => match zeroX P t with
    | some z => if concT P t then un x fun a => some (.assert t z ok a) else none
    | none => none
  | .extract x i => un x fun a => some (.extract a i)
  | .makeFunc fn first caps => match compOpds first.toList, compOpds caps.toList with
    | some a, some b => p (some (.mkfn fn a b))
    | _, _ => none
  | .lookup t x k ok => match P.underlying t with
    | some (.map _ e) => match zeroOf P e with
      | some z => bi x k fun a b => some (.lookup (z.map .d) (aggT P e) ok a b)
      | none => none
    | _ => none
  | .alloc t => match zeroOf P t with
    | some z => some (.e o.dst (.alloc (z.map .d)))
    | none => none
  | .box _ x => match compOpd x with | some a => some (.e o.dst (.box a)) | none => none
  | .store t a x => match compOpd a, compOpd x with
    | some a, some x => if hasInfo P t then some (.e o.dst (.store (P.cellsOf t) a x)) else none
    | _, _ => none
  | .makeSlice t l c => match P.underlying t with
    | some (.slice e) => match zeroOf P e, compOpd l, compOpd c with
      | some z, some a, some b => if growOk P e = false then none else some (.e o.dst (.makeSlice e (P.cellsOf e) (P.bytesOf e) z a b))
      | _, _, _ => none
    | _ => none
  | .makeMap _ none => some (.e o.dst .makeMap)
  | .mapUpdate _ m k x => match compOpds [m, k, x] with
    | some [m, k, x] => some (.e o.dst (.mapUpdate m k x))
    | _ => none
  | .call c => compCall P o.dst o.type c
  | _ => none

/-- The slots that instructions write. -/
def Ins.dst : Ins → Option Nat
  | .p d _ => d
  | .e d _ => d
  | .call d _ _ => d
  | .callv d _ _ => d
  | .when .. => none

/-- Operations one by one: the guard's slot and what it is to be. -/
def compOne (P : Program) (n : Nat) (ops : Array Oper) (o : Oper) : Option (Option (Nat × Bool) × Ins) :=
  match compOp P o with
  | none => none
  | some i =>
    if o.dst.all (· < n) then
      match o.guard with
      | none => some (none, i)
      | some (j, w) => match (ops[j]?).bind (·.dst) with
        | some s => some (some (s, w), i)
        | none => none
    else none

def compList (P : Program) (n : Nat) (ops : Array Oper) : List Oper → Option (List (Option (Nat × Bool) × Ins))
  | [] => some []
  | o :: r => match compOne P n ops o, compList P n ops r with
    | some x, some l => some (x :: l)
    | _, _ => none

/-- Instructions behind one another under one guard, taken together. -/
def group : List (Option (Nat × Bool) × Ins) → List Ins
  | [] => []
  | (none, i) :: r => i :: group r
  | (some (s, w), i) :: r => match group r with
    | .when s' w' body :: r' => if s = s' ∧ w = w' ∧ i.dst ≠ some s then .when s w (i :: body) :: r' else .when s w [i] :: .when s' w' body :: r'
    | l => .when s w [i] :: l

def Ins.lays : Ins → Bool
  | .e _ (.alloc _) | .e _ (.box _) | .e _ .makeMap | .e _ (.makeSlice ..) | .e _ (.append ..) | .e _ (.appendStr ..) | .e _ (.appendZero ..) => true
  | _ => false

def afterOf (o : Oper) : List Nat := (o.after.toList.filter fun e => Region.binds .any e).map (·.on)

def compDraw (P : Program) (n : Nat) (ops : Array Oper) : Nat → List Oper → Option (List DOp × Nat)
  | k, [] => some ([], k)
  | k, o :: r => match compOne P n ops o with
    | some (g, i) => match compDraw P n ops (if i.lays then k + 1 else k) r with
      | some (l, m) => some (⟨g, i, afterOf o, k⟩ :: l, m)
      | none => none
    | none => none

def comp (P : Program) (n : Nat) : Code → Option C
  | .skip => some .skip
  | .region _ ops false => match compList P n ops ops.toList with
    | some l => some (.ops [] (group l))
    | none => none
  | .region _ ops true => match compDraw P n ops 0 ops.toList with
    | some (l, m) => some (.drw [] m l)
    | none => none
  | .seq a b => match comp P n a, comp P n b with
    | some x, some y => some (.seq x y)
    | _, _ => none
  | .cond c a b => match compOpd c, comp P n a, comp P n b with
    | some c, some x, some y => some (.cond c x y)
    | _, _, _ => none
  | .block id c => match comp P n c with | some x => some (.block id x) | none => none
  | .loop c => match comp P n c with | some x => some (.loop [] x) | none => none
  | .exit id => some (.exit id)
  | .ret => some .ret
  | _ => none

def erase : C → C
  | .ops _ l => .ops [] l
  | .drw _ m l => .drw [] m l
  | .seq a b => .seq (erase a) (erase b)
  | .cond c a b => .cond c (erase a) (erase b)
  | .block id c => .block id (erase c)
  | .loop _ c => .loop [] (erase c)
  | c => c

def compRes (P : Program) : List ResultVar → Option (List Res)
  | [] => some []
  | .tmp s :: r => match compRes P r with
    | some l => some (.tmp s :: l)
    | none => none
  | .cell a t :: r => match compRes P r with
    | some l => if okT P t then some (.cell a (aggT P t) (P.cellsOf t) :: l) else none
    | none => none


end Go.Dn
