/- An evaluator of the model's code over symbolic values, and its soundness: part 0. No condition. -/
import Derived.Orders
import Derived.Below
import Derived.KernelRfl
import Derived.Laws.Sem
import Derived.Laws.BytesArg
set_option linter.unusedVariables false
set_option linter.unusedSimpArgs false
namespace Go.Sx
open Go.RowKit

inductive SV (T : Nat → Type) : Type where
  | any
  | v (x : Value)
  | row (t : Nat) (xs : List (T t))
  | sub (t : Nat) (xs : List (T t))
  | own (b : Nat)
  | ptr (b off : Nat)
  | eptr (b t : Nat) (i : Int) (off : Nat)
  | rptr (t : Nat) (xs : List (T t)) (i : Int) (off : Nat)
  | hnd (t j : Nat)
  | hptr (j t : Nat) (i : Int) (off : Nat)
  | agg (l : List (SV T))
  | tup (l : List (SV T))

/-- A row that a handle names. -/
inductive Cell (T : Nat → Type) : Type where
  | dead
  | arr (t : Nat) (xs : List (T t))
  | frz (t : Nat) (xs : List (T t))

inductive Blk (T : Nat → Type) : Type where
  | dead
  | cells (t : Nat) (cs : List (SV T))
  | arr (t : Nat) (xs : List (T t))
  | frz (t : Nat) (xs : List (T t))
  | mark (cs : List (Cell T))
/-- The name of the mark. -/
def MKB : Nat := 1000003
/-- The name of the heap of handles. -/
def PLB : Nat := 1000005

structure Univ (T : Nat → Type) where
  sz : Nat → Nat
  dflt : (t : Nat) → T t
  enc : (t : Nat) → T t → List (SV T)
  dec : (t : Nat) → List (SV T) → Option (T t)
  u8 : (t : Nat) → Option (T t → Int)
  em : Option Nat
  E : Bool
  hm : Bool

variable {T : Nat → Type}

/-- The element at a place. -/
def Univ.rd (U : Univ T) {t : Nat} (xs : List (T t)) (i : Int) : T t := xs.getD i.toNat (U.dflt t)

structure St (T : Nat → Type) where
  tm : List (Nat × SV T)
  env : List (Nat × Blk T)
  nb : Nat

def look {α : Type} (d : α) (n : Nat) : List (Nat × α) → α
  | [] => d
  | (k, x) :: r => match Nat.beq k n with
    | true => x
    | false => look d n r

def St.get (s : St T) (t : Nat) : SV T := look .any t s.tm
def St.blk (s : St T) (b : Nat) : Blk T := look .dead b s.env
def St.put (s : St T) (dst : Option Nat) (x : SV T) : St T := match dst with
  | some d => { s with tm := (d, x) :: s.tm }
  | none => s
def St.put1 (s : St T) (d : Nat) (x : SV T) : St T := { s with tm := (d, x) :: s.tm }
def St.puts (s : St T) (w : List (Nat × Blk T)) : St T := { s with env := w ++ s.env }

/-- What an operation asks of the state. -/
inductive RQ (T : Nat → Type) (α : Type 1) : Type 1 where
  | pure (a : α)
  | fail
  | getT (t : Nat) (k : SV T → RQ T α)
  | getB (b : Nat) (k : Blk T → RQ T α)

def RQ.bind {α β : Type 1} : RQ T α → (α → RQ T β) → RQ T β
  | .pure a, f => f a
  | .fail, _ => .fail
  | .getT t k, f => .getT t fun x => (k x).bind f
  | .getB b k, f => .getB b fun x => (k x).bind f

def RQ.run {α : Type 1} (s : St T) : RQ T α → Option α
  | .pure a => some a
  | .fail => none
  | .getT t k => (k (s.get t)).run s
  | .getB b k => (k (s.blk b)).run s

structure Step (T : Nat → Type) : Type 1 where
  conds : List Bool
  X : Type
  call : Option X
  out : X → SV T × List (Nat × Blk T)

/-- No test, no call. -/
def Step.now (x : SV T) (w : List (Nat × Blk T) := []) : Step T := ⟨[], Unit, some (), fun _ => (x, w)⟩
def Step.if_ (c : List Bool) (x : SV T) (w : List (Nat × Blk T) := []) : Step T := ⟨c, Unit, some (), fun _ => (x, w)⟩

structure CallRes (T : Nat → Type) : Type 1 where
  X : Type
  run : Option X
  out : X → SV T × List (Blk T)

abbrev Table (T : Nat → Type) := Nat → List (SV T) → List (Blk T) → Option (CallRes T)

def SV.cells : SV T → List (SV T)
  | .agg l => l
  | x => [x]

def scalar : Value → Bool
  | .bool _ | .int _ _ | .string _ | .func _ _ _ | .nilFunc => true
  | _ => false
end Go.Sx
namespace Go.Sx
open Go.RowKit
variable {T : Nat → Type}

/-- What a term yields that asks nothing of the world. -/
def pureRun (P : Program) {α : Type} : Sem α → Option α
  | .pure a => some a
  | .program k => pureRun P (k P)
  | _ => none

def shl_ (k : IntKind) (a b : Int) : Int := k.wrap (a * 2 ^ (min b.toNat k.bits))
def shr_ (k : IntKind) (a b : Int) : Int := a.fdiv (2 ^ (min b.toNat k.bits))
def and_ (k : IntKind) (a b : Int) : Int := k.wrap (BitVec.ofInt k.bits a &&& BitVec.ofInt k.bits b).toNat
def or_ (k : IntKind) (a b : Int) : Int := k.wrap (BitVec.ofInt k.bits a ||| BitVec.ofInt k.bits b).toNat
def xor_ (k : IntKind) (a b : Int) : Int := k.wrap (BitVec.ofInt k.bits a ^^^ BitVec.ofInt k.bits b).toNat
def andn_ (k : IntKind) (a b : Int) : Int := k.wrap (BitVec.ofInt k.bits a &&& ~~~BitVec.ofInt k.bits b).toNat
def bt (s : ByteArray) (i : Int) : Int := if h : i.toNat < s.size then ((s[i.toNat]'h).toNat : Int) else 0

def cst : Value → SV T
  | .agg cs => match cs.toList.all (·.oneCell') with | true => .agg (cs.toList.map .v) | false => .any
  | v => .v v

def rdO {α : Type 1} (x : Operand) (k : SV T → RQ T α) : RQ T α := match x with
  | .tmp t => .getT t k
  | .const v => k (cst v)
  | .func f => k (.v (.func (.func f) #[] #[]))
  | .global _ => .fail

def rdOs {α : Type 1} : List Operand → (List (SV T) → RQ T α) → RQ T α
  | [], k => k []
  | x :: r, k => rdO x fun s => rdOs r fun l => k (s :: l)

def elemOf (P : Program) (t : Nat) : Option Nat := match P.underlying t with
  | some (.slice e) => some e
  | _ => none
def aggOf (P : Program) (t : Nat) : Option Bool := match P.underlying t with
  | some (.struct _) => some true
  | some (.array _ _) => some true
  | some _ => some false
  | none => none
def szOf (P : Program) (t : Nat) : Option Nat := (P.info? t).map (·.size)
def byOf (P : Program) (t : Nat) : Nat := ((P.info? t).map (·.bytes)).getD 0
def fieldOf (P : Program) (s f : Nat) : Option (Nat × Nat) := match P.underlying s with
  | some (.struct fs) => match fs[f]? with
    | some x => some (x.offset, x.type)
    | none => none
  | _ => none

def SV.cells? : SV T → Option (List (SV T))
  | .agg l => some l
  | .any => none
  | .tup _ => none
  | .v (.agg _) => none
  | .v (.tuple _) => none
  | x => some [x]

def noSpot : Value → Bool
  | .agg _ => false
  | _ => true

/-- Cells off .. of a row of cells, as a value of type t. -/
def ld (P : Program) (t : Nat) (cs : List (SV T)) (off : Nat) : Option (SV T) := match szOf P t with
  | none => none
  | some n => match aggOf P t with
    | some true => match Nat.ble (off + n) cs.length with
      | true => some (.agg ((cs.drop off).take n))
      | false => none
    | some false => cs[off]?
    | none => none

def splice (cs : List (SV T)) (off : Nat) (vs : List (SV T)) : Option (List (SV T)) := match Nat.ble (off + vs.length) cs.length with
  | true => some (cs.take off ++ (vs ++ cs.drop (off + vs.length)))
  | false => none

/-- Cells that go into a row: what a slice of one's own holds is frozen. -/
def frzL {α : Type 1} : List (SV T) → (List (SV T) → List (Nat × Blk T) → RQ T α) → RQ T α
  | [], k => k [] []
  | .own b :: r, k => .getB b fun
    | .arr t xs => frzL r fun l w => k (.row t xs :: l) ((b, .frz t xs) :: w)
    | .frz t xs => frzL r fun l w => k (.row t xs :: l) w
    | _ => .fail
  | x :: r, k => frzL r fun l w => k (x :: l) w

/-- The same without freezing: what is lent for a call. -/
def lendL {α : Type 1} : List (SV T) → (List (SV T) → RQ T α) → RQ T α
  | [], k => k []
  | .own b :: r, k => .getB b fun
    | .arr t xs => lendL r fun l => k (.row t xs :: l)
    | .frz t xs => lendL r fun l => k (.row t xs :: l)
    | _ => .fail
  | x :: r, k => lendL r fun l => k (x :: l)

/-- A slice's elements. -/
def rowQ {α : Type 1} (t : Nat) (x : SV T) (k : List (T t) → RQ T α) : RQ T α := match x with
  | .row t' xs => if h : t' = t then k (h ▸ xs) else .fail
  | .own b => .getB b fun
    | .arr t' xs => if h : t' = t then k (h ▸ xs) else .fail
    | .frz t' xs => if h : t' = t then k (h ▸ xs) else .fail
    | _ => .fail
  | .sub t' xs => if h : t' = t then k (h ▸ xs) else .fail
  | .v (.slice none 0 0) => k []
  | _ => .fail

/-- Rows whose blocks are known whole. -/
def isEm (U : Univ T) (t : Nat) : Bool := match U.em with
  | some e => Nat.beq e t
  | none => false

def pv (P : Program) (s : Sem Value) : RQ T (Step T) := match pureRun P s with
  | some v => .pure (.now (.v v))
  | none => .fail

/-- Blocks named anew. -/
def rn1 (σ : Nat → Option Nat) : SV T → SV T
  | .own b => match σ b with | some c => .own c | none => .any
  | .ptr b o => match σ b with | some c => .ptr c o | none => .any
  | .eptr b t i o => match σ b with | some c => .eptr c t i o | none => .any
  | .agg _ => .any
  | .tup _ => .any
  | x => x
def rn2 (σ : Nat → Option Nat) : SV T → SV T
  | .agg l => .agg (l.map (rn1 σ))
  | x => rn1 σ x
def rn (σ : Nat → Option Nat) : SV T → SV T
  | .tup l => .tup (l.map (rn2 σ))
  | x => rn2 σ x

/-- No block is named. -/
def nr1 : SV T → Bool
  | .own _ => false
  | .ptr _ _ => false
  | .eptr _ _ _ _ => false
  | .agg _ => false
  | .tup _ => false
  | _ => true
def nr : SV T → Bool
  | .agg l => l.all nr1
  | x => nr1 x

def newBs (nid : Nat) : List (Blk T) → List (Nat × Blk T)
  | [] => []
  | b :: r => (nid, b) :: newBs (nid + 1) r

/-- A call's arguments: what is one's own is frozen. -/
def argL {α : Type 1} : List (SV T) → (List (SV T) → List (Nat × Blk T) → RQ T α) → RQ T α
  | [], k => k [] []
  | .agg l :: r, k => frzL l fun l' w' => argL r fun q w => k (.agg l' :: q) (w' ++ w)
  | x :: r, k => frzL [x] fun l' w' => argL r fun q w => k (l' ++ q) (w' ++ w)

/-- How a function is told: by its arguments alone, or with one block that it is lent and may write. -/
inductive CallE (T : Nat → Type) : Type 1 where
  | plain (F : List (SV T) → Option (CallRes T))
  | lent (sh : Bool) (F : Blk T → List (SV T) → Option (CallRes T))
  | heap (ln : Bool) (F : Blk T → List (Cell T) → List (SV T) → Option (CallRes T))
  | look_ (F : List (Cell T) → List (SV T) → Option (CallRes T))
abbrev Calls_ (T : Nat → Type) := Nat → Option (CallE T)

/-- A block that may be handed back. -/
def okB : Blk T → Bool
  | .arr _ _ => true
  | .cells _ cs => cs.all nr1
  | _ => false

/-- What a call answers; its new blocks get names of this place. -/
def outOf (nid : Nat) (x : SV T × List (Blk T)) (w : List (Nat × Blk T)) : SV T × List (Nat × Blk T) := match Nat.ble x.2.length 8 && x.2.all okB with
  | true => (rn (fun b => match Nat.blt b x.2.length with | true => some (nid + b) | false => none) x.1, newBs nid x.2 ++ w)
  | false => (.any, w)

/-- Values that name no memory. -/
def sc1 : SV T → Bool
  | .v x => scalar x
  | _ => false
def sc2 : SV T → Bool
  | .agg l => l.all sc1
  | x => sc1 x
def scal : SV T → Bool
  | .tup l => l.all sc2
  | x => sc2 x
/-- A call whose answer names no memory leaves the caller's blocks as they were. -/
def outP (nid : Nat) (x : SV T × List (Blk T)) (w : List (Nat × Blk T)) : SV T × List (Nat × Blk T) := match scal x.1 && x.2.isEmpty with
  | true => (x.1, [])
  | false => outOf nid x w

/-- Nil slices told as rows. -/
def norm1 (P : Program) (U : Univ T) (t : Nat) : SV T → SV T
  | .v (.slice none 0 0) => match elemOf P t with
    | some e => .row e []
    | none => .v (.slice none 0 0)
  | .agg cs => match U.dec t cs with
    | some y => .agg (U.enc t y)
    | none => .agg cs
  | x => x
def normL (P : Program) (U : Univ T) : List Nat → List (SV T) → List (SV T)
  | t :: ts, x :: l => norm1 P U t x :: normL P U ts l
  | _, l => l

/-- What a call answers that was lent block b; its new blocks get names of this place. -/
def outL (b nid : Nat) (x : SV T × List (Blk T)) (w : List (Nat × Blk T)) : SV T × List (Nat × Blk T) := match x.2 with
  | k :: bl => match Nat.ble bl.length 8 && bl.all okB with
    | true => (rn (fun i => match Nat.beq i 0 with | true => some b | false => match Nat.ble i bl.length with | true => some (nid + (i - 1)) | false => none) x.1, (b, k) :: (newBs nid bl ++ w))
    | false => (.any, (b, .dead) :: w)
  | [] => (.any, (b, .dead) :: w)

/-- A block that may be lent; sh: inside a struct of one field. -/
def lendOk (sh : Bool) : SV T → Blk T → Bool
  | .ptr _ 0, .cells _ cs => !sh && cs.all nr1
  | .own _, .arr _ _ => !sh
  | .agg [.own _], .arr _ _ => sh
  | _, _ => false
def nameOf : SV T → Option Nat
  | .ptr b _ => some b
  | .own b => some b
  | .agg [.own b] => some b
  | _ => none

def callQ (P : Program) (U : Univ T) (Tb : Calls_ T) (f : Nat) (nid : Nat) (ts : List Nat) (l : List (SV T)) : RQ T (Step T) := match Tb f with
  | none => .fail
  | some (.heap _ _) => .fail
  | some (.look_ _) => .fail
  | some (.plain F) => argL l fun q w => match (normL P U ts q).all nr with
    | false => .fail
    | true => match F (normL P U ts q) with
      | none => .fail
      | some c => .pure ⟨[], c.X, c.run, fun x => outP nid (c.out x) w⟩
  | some (.lent sh F) => match l with
    | [] => .fail
    | x0 :: l => match nameOf x0 with
      | none => .fail
      | some b => .getB b fun k => match lendOk sh x0 k with
        | false => .fail
        | true => argL l fun q w => match (normL P U ts.tail q).all nr && w.all (fun p => !Nat.beq p.1 b) with
          | false => .fail
          | true => match F k (normL P U ts.tail q) with
            | none => .fail
            | some c => .pure ⟨[], c.X, c.run, fun x => outL b nid (c.out x) w⟩

def eltsOf (U : Univ T) (t : Nat) : List (Nat × SV T) → Nat → Option (List (T t))
  | [], _ => some []
  | (i, x) :: r, n => match Nat.beq i n with
    | false => none
    | true => match x.cells? with
      | none => none
      | some cs => match U.dec t cs with
        | none => none
        | some e => match eltsOf U t r (n + 1) with
          | none => none
          | some l => some (e :: l)

def placesOf (P : Program) (t : Nat) : Option (List (Nat × Nat)) := match P.underlying t with
  | some (.struct fields) => fields.toList.mapM (fun f => (P.info? f.type).map fun i => (f.offset, i.size))
  | _ => none

def fillC (places : List (Nat × Nat)) : List (Nat × SV T) → List (SV T) → Option (List (SV T))
  | [], cs => some cs
  | (i, x) :: r, cs => match places[i]?, x.cells? with
    | some (off, n), some vs => match Nat.beq n vs.length with
        | false => none
        | true => match splice cs off vs with
          | none => none
          | some cs' => fillC places r cs'
    | _, _ => none

def zeroC (P : Program) (t : Nat) : Option (List (SV T)) := match (P.info? t).map (·.zero) with
  | some (some z) => match z.cells.toList.all (·.oneCell') with
    | true => some (z.cells.toList.map .v)
    | false => none
  | _ => none

def rdP {α : Type 1} : List (Nat × Operand) → (List (Nat × SV T) → RQ T α) → RQ T α
  | [], k => k []
  | (i, x) :: r, k => rdO x fun s => rdP r fun l => k ((i, s) :: l)

def optQ {α : Type 1} {β : Type} (x : Option β) (k : β → RQ T α) : RQ T α := match x with
  | some b => k b
  | none => .fail

def addOff (x : SV T) (off : Nat) : Option (SV T) := match x with
  | .ptr b o => some (.ptr b (o + off))
  | .eptr b t i o => some (.eptr b t i (o + off))
  | .rptr t xs i o => some (.rptr t xs i (o + off))
  | .hptr j t i o => some (.hptr j t i (o + off))
  | _ => none

/-- A slice type's element type, of the size that the universe knows. -/
def elemQ {α : Type 1} (P : Program) (U : Univ T) (t : Nat) (k : Nat → RQ T α) : RQ T α := match elemOf P t with
  | none => .fail
  | some te => match szOf P te with
    | none => .fail
    | some n => match Nat.beq n (U.sz te) with
      | true => k te
      | false => .fail

def sameOpd : Operand → Operand → Bool
  | .tmp a, .tmp b => Nat.beq a b
  | .const (.int _ a), .const (.int _ b) => decide (a = b)
  | _, _ => false

def hiOf (h : List (SV T)) (len : Nat) : Option (List Bool × Nat) := match h with
  | [] => some ([], len)
  | [.v (.int _ b)] => some ([decide (0 ≤ b), decide (b ≤ (len : Int))], b.toNat)
  | _ => none
def loOf (l : List (SV T)) (h : Nat) : Option (List Bool × Nat) := match l with
  | [] => some ([], 0)
  | [.v (.int _ a)] => some ([decide (0 ≤ a), decide (a ≤ (h : Int))], a.toNat)
  | _ => none

def boundLen : Nat := 35184372088832

/-- Whether two structs of plain fields are equal. -/
def eqC (P : Program) (xs ys : List (SV T)) : List Field → Option Bool
  | [] => some true
  | f :: fs => match decide (f.name = "_") with
    | true => none
    | false => match xs[f.offset]?, ys[f.offset]?, P.underlying f.type, eqC P xs ys fs with
      | some (.v (.int k a)), some (.v (.int k' b)), some (.int _), some r => if k = k' then some ((a == b) && r) else none
      | some (.v (.bool a)), some (.v (.bool b)), some .bool, some r => some ((a == b) && r)
      | some (.v (.string a)), some (.v (.string b)), some .string, some r => some ((a.toList == b.toList) && r)
      | _, _, _, _ => none

/-- An operation. -/
def opQ (P : Program) (U : Univ T) (Tb : Calls_ T) (nid : Nat) : Op → RQ T (Step T)
  | .move x => rdO x fun s => .pure (.now s)
  | .assign x => rdO x fun s => .pure (.now s)
  | .pick c a b => rdO c fun
    | .v (.bool g) => match g with
      | true => rdO a fun s => .pure (.now s)
      | false => rdO b fun s => .pure (.now s)
    | _ => .fail
  | .box t x => rdO x fun s => optQ s.cells? fun cs => .pure (.now (.ptr nid 0) [(nid, .cells t cs)])
  | .alloc t => optQ (zeroC P t) fun cs => .pure (.now (.ptr nid 0) [(nid, .cells t cs)])
  | .load t p => rdO p fun
    | .ptr b off => .getB b fun
      | .cells _ cs => optQ (ld P t cs off) fun s => .pure (.now s)
      | _ => .fail
    | .eptr b te i off => .getB b fun
      | .arr te' xs => match Nat.beq te te' with
        | true => optQ (ld P t (U.enc te' (U.rd xs i)) off) fun s => .pure (.if_ [decide (0 ≤ i), decide (i < (xs.length : Int))] s)
        | false => .fail
      | .frz te' xs => match Nat.beq te te' with
        | true => optQ (ld P t (U.enc te' (U.rd xs i)) off) fun s => .pure (.if_ [decide (0 ≤ i), decide (i < (xs.length : Int))] s)
        | false => .fail
      | _ => .fail
    | .rptr te xs i off => optQ (ld P t (U.enc te (U.rd xs i)) off) fun s => .pure (.now s)
    | _ => .fail
  | .store t p x => rdO p fun
    | .ptr b off => .getB b fun
      | .cells t' cs => rdO x fun s => optQ s.cells? fun vs => match szOf P t with
        | some n => match Nat.beq n vs.length with
          | true => optQ (splice cs off vs) fun cs' => .pure (.now .any [(b, .cells t' cs')])
          | false => .fail
        | none => .fail
      | _ => .fail
    | .eptr b te i off => .getB b fun
      | .arr te' xs => match Nat.beq te te' with
        | true => rdO x fun s => optQ s.cells? fun vs => frzL vs fun vs' w => match szOf P t with
          | some n => match Nat.beq n vs'.length with
            | true => optQ (splice (U.enc te' (U.rd xs i)) off vs') fun cs' => optQ (U.dec te' cs') fun e =>
                (match w.all fun p => !Nat.beq p.1 b with
                | true => .pure (.if_ [decide (0 ≤ i), decide (i < (xs.length : Int))] .any ((b, .arr te' (xs.set i.toNat e)) :: w))
                | false => .fail)
            | false => .fail
          | none => .fail
        | false => .fail
      | _ => .fail
    | _ => .fail
  | .fieldAddr st p f => rdO p fun s => match fieldOf P st f with
    | some (off, ft) => match szOf P ft with
      | some (_ + 1) => optQ (addOff s off) fun s' => .pure (.now s')
      | _ => .fail
    | none => .fail
  | .indexAddr st x i => rdO x fun s => rdO i fun
    | .v (.int _ n) => elemQ P U st fun te => match s with
      | .own b => .getB b fun
        | .arr te' xs => match Nat.beq te te' with
          | true => .pure (.if_ [decide (0 ≤ n), decide (n < (xs.length : Int))] (.eptr b te n 0))
          | false => .fail
        | .frz te' xs => match Nat.beq te te' with
          | true => .pure (.if_ [decide (0 ≤ n), decide (n < (xs.length : Int))] (.rptr te' xs n 0))
          | false => .fail
        | _ => .fail
      | .row te' xs => match Nat.beq te te' with
        | true => .pure (.if_ [decide (0 ≤ n), decide (n < (xs.length : Int))] (.rptr te' xs n 0))
        | false => .fail
      | _ => .fail
    | _ => .fail
  | .index st x i => rdO x fun s => rdO i fun n => match s, n, P.underlying st with
    | .v (.string s), .v (.int _ n), some .string => .pure (.if_ [decide (0 ≤ n), decide (n < (s.size : Int))] (.v (.int .u8 (bt s n))))
    | _, _, _ => .fail
  | .extract x i => rdO x fun
    | .tup l => optQ l[i]? fun s => .pure (.now s)
    | _ => .fail
  | .field st x f => rdO x fun
    | .agg l => match fieldOf P st f with
      | some (off, ft) => optQ (ld P ft l off) fun s => .pure (.now s)
      | none => .fail
    | _ => .fail
  | .build t parts => rdP parts.toList fun l => optQ (placesOf P t) fun places => optQ (zeroC P t) fun z => optQ (fillC places l z) fun cs => .pure (.now (.agg cs))
  | .buildSlice t n parts => rdP parts.toList fun l => elemQ P U t fun te => match Nat.beq l.length n && (Nat.ble (n * U.sz te) 16777216 && Nat.ble n 16777216) with
    | true => optQ (zeroC P te : Option (List (SV T))) fun _ => argL (l.map (·.2)) fun q w => optQ (eltsOf U te ((l.map (·.1)).zip q) 0) fun xs => .pure (.now (.own nid) ((nid, .arr te xs) :: w))
    | false => .fail
  | .nilCheck x => rdO x fun
    | .ptr b o => .pure (.now (.ptr b o))
    | .eptr b t i o => .pure (.now (.eptr b t i o))
    | .rptr t xs i o => .pure (.now (.rptr t xs i o))
    | .hptr j t i o => .pure (.now (.hptr j t i o))
    | .v (.func (.func f) x y) => .pure (.now (.v (.func (.func f) x y)))
    | _ => .fail
  | .binOp op t x y _ => rdO x fun sx => rdO y fun sy => match sx, sy with
    | .v (.int k a), .v (.int k' b) => match op with
      | .quo => if k = k' then .pure (.if_ [!decide (b = 0)] (.v (.int k (k.wrap (a.tdiv b))))) else .fail
      | .rem => if k = k' then .pure (.if_ [!decide (b = 0)] (.v (.int k (a.tmod b)))) else .fail
      | .shl => .pure (.if_ [!decide (b < 0)] (.v (.int k (shl_ k a b))))
      | .shr => .pure (.if_ [!decide (b < 0)] (.v (.int k (shr_ k a b))))
      | .and => if k = k' then .pure (.now (.v (.int k (and_ k a b)))) else .fail
      | .or => if k = k' then .pure (.now (.v (.int k (or_ k a b)))) else .fail
      | .xor => if k = k' then .pure (.now (.v (.int k (xor_ k a b)))) else .fail
      | .andNot => if k = k' then .pure (.now (.v (.int k (andn_ k a b)))) else .fail
      | _ => pv P (do eqGuard op t x y (.int k a) (.int k' b); Go.binOp op t (.int k a) (.int k' b))
    | .v (.string a), .v (.string b) => match op with
      | .add => .pure (.if_ [decide (a.size + b.size ≤ 9223372036854775807)] (.v (.string (a ++ b))))
      | _ => pv P (do eqGuard op t x y (.string a) (.string b); Go.binOp op t (.string a) (.string b))
    | .v a, .v b => pv P (do eqGuard op t x y a b; Go.binOp op t a b)
    | .agg xs, .agg ys => match P.underlying t with
      | some (.struct fs) => match P.stoodInHeld t || P.eqGuardType P.depth t with
        | true => .fail
        | false => optQ (eqC P xs ys fs.toList) fun b => match op with
          | .eql => .pure (.now (.v (.bool b)))
          | .neq => .pure (.now (.v (.bool (!b))))
          | _ => .fail
      | _ => .fail
    | _, _ => .fail
  | .unOp op _ x => rdO x fun
    | .v a => pv P (Op.unary op a)
    | _ => .fail
  | .convert src dst x => rdO x fun
    | .v (.int k a) => pv P (Go.convert src dst (.int k a))
    | .v (.string s) => pv P (Go.convert src dst (.string s))
    | x => match P.underlying dst, P.underlying src with
      | some .string, some (.slice te) => match P.underlying te, U.u8 te with
        | some (.int .u8), some f => rowQ te x fun xs => .pure (.now (.v (.string (strOfNums (xs.map f)))))
        | _, _ => .fail
      | _, _ => .fail
  | .slice t x lo hi mx => match mx with
    | some _ => .fail
    | none => rdO x fun s => rdOs lo.toList fun l => rdOs hi.toList fun h => match s with
      | .v (.string s) => match P.underlying t with
        | some .string => optQ (hiOf h s.size) fun (c1, h) => optQ (loOf l h) fun (c2, l) => .pure (.if_ (c1 ++ c2) (.v (.string (s.extract l h))))
        | _ => .fail
      | x => elemQ P U t fun te => frzL [x] fun x' w => match x' with
        | [.row te' xs] => match Nat.beq te te' with
          | true => optQ (hiOf h xs.length) fun (c1, h) => optQ (loOf l h) fun (c2, l) => .pure (.if_ (c1 ++ c2) (match isEm U te' with | true => .sub te' ((xs.take h).drop l) | false => .row te' ((xs.take h).drop l)) w)
          | false => .fail
        | _ => .fail
  | .makeSlice t l c => match sameOpd l c with
    | false => .fail
    | true => rdO l fun
      | .v (.int _ n) => elemQ P U t fun te => optQ (zeroC P te) fun z => optQ (U.dec te z) fun e =>
          .pure (.if_ [decide (0 ≤ n), decide ((byOf P te : Int) * n ≤ 140737488355328), decide (n ≤ 140737488355328)] (.own nid) [(nid, .arr te (List.replicate n.toNat e))])
      | _ => .fail
  | .call c => match c.callee with
    | .builtin .len => rdOs c.args.toList fun
      | [.v (.string s)] => match (c.argTypes[0]?).bind P.underlying with
        | some .string => .pure (.now (.v (.int .i64 (s.size : Int))))
        | _ => .fail
      | [.row _ xs] => match (c.argTypes[0]?).bind P.underlying with
        | some (.slice _) => .pure (.now (.v (.int .i64 (xs.length : Int))))
        | _ => .fail
      | [.own b] => match (c.argTypes[0]?).bind P.underlying with
        | some (.slice _) => .getB b fun
          | .arr _ xs => .pure (.now (.v (.int .i64 (xs.length : Int))))
          | .frz _ xs => .pure (.now (.v (.int .i64 (xs.length : Int))))
          | _ => .fail
        | _ => .fail
      | [.v (.slice none 0 0)] => match (c.argTypes[0]?).bind P.underlying with
        | some (.slice _) => .pure (.now (.v (.int .i64 0)))
        | _ => .fail
      | _ => .fail
    | .builtin .min => rdOs c.args.toList fun
      | [.v (.int k a), .v (.int _ b)] => .pure (.now (.v (.int k (cond (decide (b < a)) b a))))
      | _ => .fail
    | .builtin .max => rdOs c.args.toList fun
      | [.v (.int k a), .v (.int _ b)] => .pure (.now (.v (.int k (cond (decide (b > a)) b a))))
      | _ => .fail
    | .builtin .append => match c.argTypes.toList with
      | [t0, t1] => match Nat.beq t0 t1 with
        | true => elemQ P U t0 fun te => optQ (zeroC P te : Option (List (SV T))) fun z => match Nat.beq z.length (U.sz te) && (Nat.blt 0 (U.sz te) && Nat.blt 0 (byOf P te)) with
          | true => rdOs c.args.toList fun
            | [x, y] => match x with
              | .own b => .getB b fun
                | .arr t xs => match Nat.beq t te with
                  | true => rowQ t y fun ys => .pure (.if_ [decide ((xs.length + ys.length) * byOf P te ≤ 140737488355328)] (.own nid) [(b, .dead), (nid, .arr t (xs ++ ys))])
                  | false => .fail
                | _ => .fail
              | .v (.slice none 0 0) => rowQ te y fun ys => .pure (.if_ [decide (ys.length * byOf P te ≤ 140737488355328)] (.own nid) [(nid, .arr te ys)])
              | .row t xs => match Nat.beq t te && isEm U t with
                | true => .getB MKB fun
                  | .mark _ => rowQ t y fun ys => .pure (.if_ [decide ((xs.length + ys.length) * byOf P te ≤ 140737488355328)] (.row t (xs ++ ys)) [(MKB, .dead)])
                  | _ => .fail
                | false => .fail
              | _ => .fail
            | _ => .fail
          | false => .fail
        | false => .fail
      | _ => .fail
    | .value f => rdO f fun
      | .v (.func (.func n) x y) => match Nat.beq (x.size + y.size) 0 with
        | true => rdOs c.args.toList fun l => callQ P U Tb n nid c.argTypes.toList l
        | false => .fail
      | _ => .fail
    | _ => .fail
  | _ => .fail

/-- Writes that leave the heap of handles alone. -/
def noPL (ws : List (Nat × Blk T)) : List (Nat × Blk T) := ws.filter fun p => !Nat.beq p.1 PLB
def Step.fil (c : Step T) : Step T := ⟨c.conds, c.X, c.call, fun x => ((c.out x).1, noPL (c.out x).2)⟩
/-- A temporary, or a block, read as another. -/
def RQ.wT {α : Type 1} (p : Nat) (x : SV T) : RQ T α → RQ T α
  | .pure a => .pure a
  | .fail => .fail
  | .getT t k => match Nat.beq p t with
    | true => (k x).wT p x
    | false => .getT t fun y => (k y).wT p x
  | .getB b k => .getB b fun y => (k y).wT p x
def RQ.wB {α : Type 1} (b : Nat) (x : Blk T) : RQ T α → RQ T α
  | .pure a => .pure a
  | .fail => .fail
  | .getT t k => .getT t fun y => (k y).wB b x
  | .getB c k => match Nat.beq b c with
    | true => (k x).wB b x
    | false => .getB c fun y => (k y).wB b x
/-- A handle's row; whether it is one of one's own. -/
def rdc (t : Nat) (cs : List (Cell T)) (h : Nat) : List (T t) := match h with
  | 0 => []
  | j + 1 => match cs[j]? with
    | some (.arr t' xs) => if e : t' = t then e ▸ xs else []
    | some (.frz t' xs) => if e : t' = t then e ▸ xs else []
    | _ => []
def okA (t : Nat) (cs : List (Cell T)) (h : Nat) : Bool := match h with
  | 0 => true
  | j + 1 => match cs[j]? with
    | some (.arr t' _) => Nat.beq t' t
    | _ => false
/-- A handle's row may be read. -/
def okR (t : Nat) (cs : List (Cell T)) (h : Nat) : Bool := match h with
  | 0 => true
  | j + 1 => match cs[j]? with
    | some (.arr t' _) => Nat.beq t' t
    | some (.frz t' _) => Nat.beq t' t
    | _ => false
def setc (cs : List (Cell T)) (h : Nat) (c : Cell T) : List (Cell T) := match h with
  | 0 => cs
  | j + 1 => cs.set j c
/-- What a step says of the name that a handle's row had. -/
def expS (ib t h : Nat) : SV T → SV T
  | .own b => match Nat.beq b ib with | true => .hnd t h | false => .own b
  | .eptr b t' i o => match Nat.beq b ib with | true => .hptr h t' i o | false => .eptr b t' i o
  | x => x
def fndW (ib : Nat) : List (Nat × Blk T) → Option (Blk T)
  | [] => none
  | (b, k) :: r => match Nat.beq b ib with | true => some k | false => fndW ib r
def heapO (cs : List (Cell T)) : Option (Blk T) → List (Cell T)
  | some (.mark ds) => ds
  | _ => cs
def noIb (ib : Nat) (ws : List (Nat × Blk T)) : List (Nat × Blk T) := ws.filter fun p => !Nat.beq p.1 ib
def expW (ib t h : Nat) (cs : List (Cell T)) (ws : List (Nat × Blk T)) : List (Nat × Blk T) := match fndW ib ws, fndW PLB ws with
  | none, none => ws
  | none, some k => (PLB, .mark (setc (heapO (setc cs h .dead) (some k)) h (.arr t (rdc t cs h)))) :: noIb ib ws
  | some (.arr t' ys), k => (PLB, .mark (setc (heapO (setc cs h .dead) k) h (.arr t' ys))) :: noIb ib ws
  | some _, k => (PLB, .mark (heapO (setc cs h .dead) k)) :: noIb ib ws
/-- An operation whose operand p is a handle: its row gets the name ib. -/
def impQ (ib : Nat) (q : RQ T (Step T)) (p t h : Nat) (sv : SV T) : RQ T (Step T) := match Nat.beq ib PLB || Nat.beq ib MKB with
  | true => .fail
  | false => .getB PLB fun
    | .mark cs => (((q.wT p sv).wB ib (.arr t (rdc t cs h))).wB PLB (.mark (setc cs h .dead))).bind fun c =>
        .pure ⟨okA t cs h :: c.conds, c.X, c.call, fun x => (expS ib t h (c.out x).1, expW ib t h cs (c.out x).2)⟩
    | _ => .fail
def impL (q : RQ T (Step T)) : List Nat → Nat → RQ T (Step T)
  | [], _ => q.bind fun c => .pure c.fil
  | p :: r, ib => .getT p fun
    | .hptr h t i off => impQ ib (impL q r (ib + 1)) p t h (.eptr ib t i off)
    | .hnd t h => impQ ib (impL q r (ib + 1)) p t h (.own ib)
    | _ => impL q r (ib + 1)
def tmpO : Operand → List Nat
  | .tmp p => [p]
  | _ => []
/-- The operands that may be handles. -/
def hOps : Op → List Nat
  | .load _ p => tmpO p
  | .store _ p _ => tmpO p
  | .indexAddr _ p _ => tmpO p
  | .slice _ p _ _ _ => tmpO p
  | .convert _ _ p => tmpO p
  | .call c => match c.callee with
    | .builtin .append => (c.args.toList.take 2).flatMap tmpO
    | _ => []
  | _ => []
/-- Rows of one's own among cells that go into the heap: they get handles. -/
def absL (cs : List (Cell T)) : List (SV T) → List (Nat × Blk T) → List (SV T) × List (Cell T) × List (Nat × Blk T)
  | [], _ => ([], cs, [])
  | x :: r, bs => match x with
    | .own b => match fndW b bs with
      | some (.arr t xs) => (.hnd t (cs.length + 1) :: (absL (cs ++ [.arr t xs]) r (noIb b bs)).1, (absL (cs ++ [.arr t xs]) r (noIb b bs)).2.1, (b, .dead) :: (absL (cs ++ [.arr t xs]) r (noIb b bs)).2.2)
      | _ => (.any :: (absL cs r bs).1, (absL cs r bs).2)
    | x => (x :: (absL cs r bs).1, (absL cs r bs).2)
def ownsL : List (SV T) → List Nat
  | [] => []
  | .own b :: r => b :: ownsL r
  | _ :: r => ownsL r
def rdBs {α : Type 1} : List Nat → (List (Nat × Blk T) → RQ T α) → RQ T α
  | [], k => k []
  | b :: r, k => .getB b fun x => rdBs r fun l => k ((b, x) :: l)
/-- Blocks read as others. -/
def RQ.wBs {α : Type 1} : List (Nat × Blk T) → RQ T α → RQ T α
  | [], q => q
  | (b, x) :: r, q => RQ.wBs r (q.wB b x)
/-- A value of a store, whose rows of one's own get handles first. -/
def absQ (q : RQ T (Step T)) (p : Nat) (l : List (SV T)) (ag : Bool) : RQ T (Step T) := match (ownsL l).contains PLB || (ownsL l).contains MKB with
  | true => .fail
  | false => .getB PLB fun
    | .mark cs => rdBs (ownsL l) fun bs =>
        let y := absL cs l bs
        (RQ.wBs ((PLB, .mark y.2.1) :: y.2.2) (q.wT p (oneA ag y.1))).bind fun c =>
          .pure ⟨c.conds, c.X, c.call, fun x => ((c.out x).1, (c.out x).2 ++ ((PLB, .mark y.2.1) :: y.2.2))⟩
    | _ => .fail
  where oneA (ag : Bool) (l : List (SV T)) : SV T := match ag, l with
  | false, [x] => x
  | _, l => .agg l
def impA (q : RQ T (Step T)) : Op → RQ T (Step T)
  | .store _ (.tmp p) (.tmp x) => .getT p fun
    | .hptr _ _ _ _ => .getT x fun
      | .own b => absQ q x [.own b] false
      | .agg l => match (ownsL l).isEmpty with
        | true => q
        | false => absQ q x l true
      | _ => q
    | _ => q
  | _ => q
def isSlc : Op → Bool
  | .slice _ _ _ _ _ => true
  | _ => false
/-- A slice of a handle's row: it stands still from then on. -/
def absR (cs : List (Cell T)) (y : SV T × List (Nat × Blk T)) : SV T × List (Nat × Blk T) := match y.1 with
  | .row t xs => (.hnd t ((heapO cs (fndW PLB y.2)).length + 1), (PLB, .mark (heapO cs (fndW PLB y.2) ++ [.frz t xs])) :: y.2)
  | _ => y
/-- A call that is lent the heap of handles. -/
def outH (y : SV T × List (Blk T)) : SV T × List (Nat × Blk T) := match y.2 with
  | [.mark cs] => (y.1, [(PLB, .mark cs)])
  | _ => (.any, [(PLB, .dead)])
def outHL (b : Nat) (y : SV T × List (Blk T)) : SV T × List (Nat × Blk T) := match y.2 with
  | [.mark cs, k] => (y.1, [(PLB, .mark cs), (b, k)])
  | _ => (.any, [(PLB, .dead)])
def callH (F : CallE T) (l : List (SV T)) : RQ T (Step T) := match F with
  | .heap false F => match l.all nr with
    | false => .fail
    | true => .getB PLB fun
      | .mark cs => match F .dead cs l with
        | none => .fail
        | some c => .pure ⟨[], c.X, c.run, fun x => outH (c.out x)⟩
      | _ => .fail
  | .heap true F => match l with
    | .ptr b 0 :: l => match l.all nr && (!Nat.beq b PLB && !Nat.beq b MKB) with
      | false => .fail
      | true => .getB PLB fun
        | .mark cs => .getB b fun
          | .cells t ks => match ks.all nr1 with
            | false => .fail
            | true => match F (.cells t ks) cs l with
              | none => .fail
              | some c => .pure ⟨[], c.X, c.run, fun x => outHL b (c.out x)⟩
          | _ => .fail
        | _ => .fail
    | _ => .fail
  | .look_ F => match l.all nr with
    | false => .fail
    | true => .getB PLB fun
      | .mark cs => match F cs l with
        | none => .fail
        | some c => .pure ⟨[], c.X, c.run, fun x => ((c.out x).1, [])⟩
      | _ => .fail
  | _ => .fail
def isHp : CallE T → Bool
  | .heap _ _ => true
  | .look_ _ => true
  | _ => false
def opE (P : Program) (U : Univ T) (Tb : Calls_ T) (nid : Nat) (o : Op) : RQ T (Step T) := match isSlc o with
  | false => impA (impL (opQ P U Tb nid o) (hOps o) (nid + 8)) o
  | true => .getB PLB fun
    | .mark cs => (impL (opQ P U Tb nid o) (hOps o) (nid + 8)).bind fun c => .pure ⟨c.conds, c.X, c.call, fun x => absR cs (c.out x)⟩
    | _ => .fail
def lenH (P : Program) (c : Call) (t h : Nat) : RQ T (Step T) := match (c.argTypes[0]?).bind P.underlying with
  | some (.slice _) => .getB PLB fun
    | .mark cs => .pure (.if_ [okR t cs h] (.v (.int .i64 ((rdc t cs h).length : Int))))
    | _ => .fail
  | _ => .fail
/-- An operation, where a heap of handles may be. -/
def opH (P : Program) (U : Univ T) (Tb : Calls_ T) (nid : Nat) (o : Op) : RQ T (Step T) := match U.hm with
  | false => opQ P U Tb nid o
  | true => match o with
    | .call c => match c.callee with
      | .builtin .len => rdOs c.args.toList fun
        | [.hnd t h] => lenH P c t h
        | _ => opE P U Tb nid o
      | .value f => rdO f fun
        | .v (.func (.func n) x y) => match Nat.beq (x.size + y.size) 0 with
          | true => match Tb n with
            | some F => match isHp F with
              | true => rdOs c.args.toList fun l => callH F l
              | false => opE P U Tb nid o
            | none => .fail
          | false => .fail
        | _ => .fail
      | _ => opE P U Tb nid o
    | _ => opE P U Tb nid o

/-- Rows of one's own get handles: what is told of them. -/
def rnH1 (b t h : Nat) : SV T → SV T
  | .own c => match Nat.beq c b with | true => .hnd t h | false => .own c
  | .eptr c t' i o => match Nat.beq c b with | true => .hptr h t' i o | false => .eptr c t' i o
  | x => x
def rnH2 (b t h : Nat) : SV T → SV T
  | .agg l => .agg (l.map (rnH1 b t h))
  | x => rnH1 b t h x
def rnH (b t h : Nat) : SV T → SV T
  | .tup l => .tup (l.map (rnH2 b t h))
  | x => rnH2 b t h x
def rnHB (b t h : Nat) : Blk T → Blk T
  | .cells t' cs => .cells t' (cs.map (rnH1 b t h))
  | x => x
def absB (s : St T) (b : Nat) : St T := match Nat.beq b MKB with
  | true => s
  | false => match s.blk b with
    | .arr t xs => match s.blk PLB with
      | .mark cs => ⟨s.tm.map fun p => (p.1, rnH b t (cs.length + 1) p.2), (PLB, .mark (cs ++ [.arr t xs])) :: (b, .dead) :: s.env.map fun p => (p.1, rnHB b t (cs.length + 1) p.2), s.nb⟩
      | _ => s
    | _ => s
def arrs : List (Nat × Blk T) → List Nat
  | [] => []
  | (b, .arr _ _) :: r => b :: arrs r
  | _ :: r => arrs r
/-- At a region's end. -/
def absSt (U : Univ T) (s : St T) : St T := match U.hm with
  | false => s
  | true => (arrs s.env).reverse.foldl absB s

/-- Which block an SV leads to, in the order in which one meets them. -/
def metL (env : List (Nat × Blk T)) : Nat → List (SV T) → List Nat → List Nat
  | 0, _, acc => acc
  | n + 1, l, acc => l.foldl (fun acc x => match x with
    | .own b => match acc.contains b with | true => acc | false => acc ++ [b]
    | .eptr b _ _ _ => match acc.contains b with | true => acc | false => acc ++ [b]
    | .ptr b _ => match acc.contains b with
      | true => acc
      | false => match look .dead b env with
        | .cells _ cs => metL env n cs (acc ++ [b])
        | _ => acc ++ [b]
    | .agg l => metL env n l acc
    | .tup l => metL env n l acc
    | _ => acc) acc

def idx (b : Nat) : List Nat → Nat → Option Nat
  | [], _ => none
  | c :: r, n => match Nat.beq c b with | true => some n | false => idx b r (n + 1)

def renBlk (ids : List Nat) : Blk T → Blk T
  | .cells t cs => .cells t (cs.map (rn1 (fun b => idx b ids 0)))
  | .mark _ => .dead
  | x => x

def canonE (ids : List Nat) (env : List (Nat × Blk T)) : List Nat → Nat → List (Nat × Blk T)
  | [], _ => []
  | b :: r, n => (n, renBlk ids (look .dead b env)) :: canonE ids env r (n + 1)

/-- The marks stay. -/
def kpM (k : Nat) (env l : List (Nat × Blk T)) : List (Nat × Blk T) := match look .dead k env with
  | .mark cs => (k, .mark cs) :: l
  | _ => l
def mkE (env l : List (Nat × Blk T)) : List (Nat × Blk T) := kpM MKB env (kpM PLB env l)

def nodupB : List Nat → Bool
  | [] => true
  | b :: r => match idx b r 0 with | some _ => false | none => nodupB r

def preB : Nat → Nat → List Nat → Bool
  | 0, _, _ => true
  | n + 1, k, b :: r => Nat.beq b k && preB n (k + 1) r
  | _ + 1, _, [] => false

/-- A state cut down to some temporaries, its blocks numbered anew; the first nl keep their numbers. -/
def canon (nl : Nat) (keep : List Nat) (s : St T) : Option (St T) :=
  let ids := metL s.env 3 (keep.map s.get) (List.range nl)
  match nodupB ids && preB nl 0 ids with
  | true => some ⟨keep.map fun t => (t, rn (fun b => idx b ids 0) (s.get t)), mkE s.env (canonE ids s.env ids 0), ids.length⟩
  | false => none

structure Fn (T : Nat → Type) (R : Type) where
  P : Program
  U : Univ T
  Tb : Calls_ T
  nt : Nat
  res : List ResultVar
  rty : List Nat
  frz : Bool
  nl : Nat
  ann : Nat → Option (List Nat)
  fin : SV T → List (Blk T) → Option R

variable {R : Type}

/-- What a frozen row of one's own is told as at the end. -/
def thaw1 (s : St T) : SV T → SV T
  | .own b => match s.blk b with
    | .frz t xs => .row t xs
    | _ => .own b
  | x => x
def thaw2 (s : St T) : SV T → SV T
  | .agg l => .agg (l.map (thaw1 s))
  | x => thaw1 s x
def thaw (s : St T) : SV T → SV T
  | .tup l => .tup (l.map (thaw2 s))
  | x => thaw2 s x

def resL (P : Program) (s : St T) : List ResultVar → Option (List (SV T))
  | [] => some []
  | .tmp t :: r => match resL P s r with
    | some l => some (s.get t :: l)
    | none => none
  | .cell a t :: r => match s.get a with
    | .ptr b off => match s.blk b with
      | .cells _ cs => match ld P t cs off, resL P s r with
        | some x, some l => some (x :: l)
        | _, _ => none
      | _ => none
    | _ => none

def oneOf (l : List (SV T)) : SV T := match l with
  | [x] => x
  | l => .tup l

def finI (F : Fn T R) (s : St T) (x : SV T) (ids : List Nat) : Option R := match nodupB ids && (preB F.nl 0 ids && ids.all fun b => okB (s.blk b)) with
  | true => F.fin (rn (fun b => idx b ids 0) x) (ids.map s.blk)
  | false => none

def finT (F : Fn T R) (s : St T) (x : SV T) : Option R := finI F s x (metL s.env 3 [x] (List.range F.nl))

/-- Nil results told as empty rows of one's own. -/
def ownC : List (SV T) → List (SV T) → St T → List (SV T) × St T
  | x :: l, y :: l', s => match x, y with
    | .v (.slice none 0 0), .row e [] => (.own s.nb :: (ownC l l' ⟨s.tm, (s.nb, .arr e []) :: s.env, s.nb + 1⟩).1, (ownC l l' ⟨s.tm, (s.nb, .arr e []) :: s.env, s.nb + 1⟩).2)
    | x, _ => (x :: (ownC l l' s).1, (ownC l l' s).2)
  | l, _, s => (l, s)
def ownL (P : Program) (U : Univ T) : List Nat → List (SV T) → St T → List (SV T) × St T
  | t :: ts, x :: l, s => match x with
    | .v (.slice none 0 0) => match elemOf P t with
      | some e => (.own s.nb :: (ownL P U ts l ⟨s.tm, (s.nb, .arr e []) :: s.env, s.nb + 1⟩).1, (ownL P U ts l ⟨s.tm, (s.nb, .arr e []) :: s.env, s.nb + 1⟩).2)
      | none => (x :: (ownL P U ts l s).1, (ownL P U ts l s).2)
    | .agg cs => match U.dec t cs with
      | some y => (.agg (ownC cs (U.enc t y) s).1 :: (ownL P U ts l (ownC cs (U.enc t y) s).2).1, (ownL P U ts l (ownC cs (U.enc t y) s).2).2)
      | none => (x :: (ownL P U ts l s).1, (ownL P U ts l s).2)
    | _ => (x :: (ownL P U ts l s).1, (ownL P U ts l s).2)
  | _, l, s => (l, s)

/-- What the lent blocks hold at the end. -/
def lentC (nl : Nat) (s : St T) : Option (List (Blk T)) := match nl with
  | 0 => some []
  | 1 => match s.blk 0 with
    | .cells t cs => match cs.all nr1 with
      | true => some [.cells t cs]
      | false => none
    | .arr t xs => some [.arr t xs]
    | _ => none
  | _ => none

def finS (F : Fn T R) (s : St T) : Option R := match resL F.P s F.res with
  | none => none
  | some l => match F.U.hm with
    | true => match l.all nr with
      | false => none
      | true => match lentC F.nl s with
        | none => none
        | some bl => F.fin (oneOf l) (s.blk PLB :: bl)
    | false => match F.frz with
      | false => finT F (ownL F.P F.U F.rty l s).2 (thaw (ownL F.P F.U F.rty l s).2 (oneOf (ownL F.P F.U F.rty l s).1))
      | true => match (argL l fun q w => match w.all (fun p => Nat.ble F.nl p.1) with | true => .pure (ULift.up.{1} q) | false => .fail).run s with
        | none => none
        | some q => match (normL F.P F.U F.rty q.down).all nr with
          | false => none
          | true => match lentC F.nl s with
            | none => none
            | some bl => F.fin (oneOf (normL F.P F.U F.rty q.down)) bl

def allC {R : Type} : List Bool → Option R → Option R
  | [], r => r
  | c :: l, r => cond c (allC l r) none

def dstOk (nt : Nat) (d : Option Nat) : Bool := match d with
  | some d => Nat.blt d nt
  | none => true

/-- What an operation reads and writes. -/
structure Foot where
  rt : List Nat
  rb : List Nat
  wt : Option Nat
  wb : List Nat

def RQ.footT {α : Type 1} (s : St T) : RQ T α → List Nat
  | .pure _ => []
  | .fail => []
  | .getT t k => t :: (k (s.get t)).footT s
  | .getB b k => (k (s.blk b)).footT s
def RQ.footB {α : Type 1} (s : St T) : RQ T α → List Nat
  | .pure _ => []
  | .fail => []
  | .getT t k => (k (s.get t)).footB s
  | .getB b k => b :: (k (s.blk b)).footB s

/-- A region's operations, in the text's order. -/
def evOps (F : Fn T R) (ops : Array Oper) (nb : Nat) : List Oper → Nat → St T → List Foot → (St T → List Foot → Option R) → Option R
  | [], _, s, fs, k => k s fs
  | o :: r, i, s, fs, k => match dstOk F.nt o.dst with
    | false => none
    | true =>
      let go : St T → List Nat → Option R := fun s g => match (opH F.P F.U F.Tb (nb + 16 * i) o.op).run s with
        | none => none
        | some c => allC c.conds (c.call.bind fun x => evOps F ops nb r (i + 1) ((s.puts (c.out x).2).put o.dst (c.out x).1)
            (fs ++ [⟨g ++ (opH F.P F.U F.Tb (nb + 16 * i) o.op).footT s, (opH F.P F.U F.Tb (nb + 16 * i) o.op).footB s, o.dst, (c.out x).2.map (·.1)⟩]) k)
      match o.guard with
      | none => go s []
      | some (j, want) => match (ops[j]?).bind (·.dst) with
        | none => none
        | some d => match s.get d with
          | .v (.bool g) =>
            let yes := go (s.put1 d (.v (.bool want))) [d]
            let no := evOps F ops nb r (i + 1) ((s.put1 d (.v (.bool (!want)))).put o.dst (.v undef)) (fs ++ [⟨[d], [], o.dst, []⟩]) k
            match want with
            | true => cond g yes no
            | false => cond g no yes
          | .v (.tuple ⟨[]⟩) => evOps F ops nb r (i + 1) (s.put o.dst (.v undef)) (fs ++ [⟨[d], [], o.dst, []⟩]) k
          | _ => none

def maskOf (masks : List Nat) (o : Oper) : Nat := o.after.toList.foldl (fun m e => match Region.binds .any e with | true => m ||| (2 ^ e.on ||| masks.getD e.on 0) | false => m) 0
def masksOf : List Oper → List Nat → List Nat
  | [], acc => acc
  | o :: r, acc => masksOf r (acc ++ [maskOf acc o])
def afterOk : List Oper → Nat → Bool
  | [], _ => true
  | o :: r, i => (o.after.toList.all fun e => match Region.binds .any e with | true => Nat.blt e.on i | false => true) && afterOk r (i + 1)

def disj (l l' : List Nat) : Bool := l.all fun b => !l'.contains b
def tdisj (d : Option Nat) (l : List Nat) : Bool := match d with
  | none => true
  | some d => !l.contains d
/-- Either may come first. -/
def indepB (f g : Foot) : Bool := tdisj f.wt (g.rt ++ g.wt.toList) && (tdisj g.wt f.rt && (disj f.wb g.rb && (disj f.wb g.wb && disj g.wb f.rb)))
def pairsOk (masks : List Nat) : List Foot → Nat → Bool
  | [], _ => true
  | f :: r, i => (r.zipIdx (i + 1)).all (fun (g, j) => (masks.getD j 0).testBit i || indepB f g) && pairsOk masks r (i + 1)

/-- Whatever order is drawn. -/
def drawOk (ops : Array Oper) (fs : List Foot) : Bool := afterOk ops.toList 0 && pairsOk (masksOf ops.toList []) fs 0

def evB (F : Fn T R) (G : List Item → St T → Option R) (ih : List Item → St T → Option R) : List Item → St T → Option R
  | [], s => finS F s
  | .code .ret :: _, s => finS F s
  | .code .skip :: k, s => ih k s
  | .code (.label _) :: k, s => ih k s
  | .inBlock _ :: k, s => ih k s
  | .code (.seq a b) :: k, s => ih (.code a :: .code b :: k) s
  | .code (.cond c x y) :: k, s => match (match c with | .tmp t => s.get t | .const v => .v v | _ => .any) with
    | .v (.bool b) => cond b (ih (.code x :: k) s) (ih (.code y :: k) s)
    | _ => none
  | .code (.block id c) :: k, s => ih (.code c :: .inBlock id :: k) s
  | .code (.loop c) :: k, s => ih (.code c :: .inLoop c :: k) s
  | .inLoop c :: k, s => ih (.code c :: .inLoop c :: k) s
  | .code (.exit id) :: k, s => match exitTo id k with
    | some k' => ih k' s
    | none => none
  | .code (.region id ops d) :: k, s => match F.ann id with
    | some keep => match canon F.nl keep s with
      | some s' => G (.code (.region id ops d) :: k) s'
      | none => none
    | none => evOps F ops s.nb ops.toList 0 s [] fun s' fs => match d && !drawOk ops fs with
      | true => none
      | false => ih k (absSt F.U ⟨s'.tm, s'.env, s.nb + 16 * ops.size⟩)
  | _, _ => none

def ev (F : Fn T R) (G : List Item → St T → Option R) (n : Nat) : List Item → St T → Option R :=
  Nat.rec (fun _ _ => none) (fun _ ih => evB F G ih) n

/-- From an annotated region on. -/
def evFrom (F : Fn T R) (G : List Item → St T → Option R) (n : Nat) : List Item → St T → Option R
  | .code (.region _ ops d) :: k, s => evOps F ops s.nb ops.toList 0 s [] fun s' fs => match d && !drawOk ops fs with
    | true => none
    | false => ev F G n k (absSt F.U ⟨s'.tm, s'.env, s.nb + 16 * ops.size⟩)
  | _, _ => none

def evJ (F : Fn T R) (n : Nat) (k : Nat) : List Item → St T → Option R :=
  Nat.rec (fun _ _ => none) (fun _ ih => evFrom F ih n) k
end Go.Sx
