/- The engine's state and its evaluation: what a piece of the model's code asks for, as a proposition that whnf computes. -/
import Derived.Test.YtlkgjffffeohdaaGreatEng0
import Derived.WalkKit
set_option linter.unusedVariables false
namespace Go.Eng
open Go

/-- a known value, or a pointer to a small block of the call's own (its place in the list, its block, the cell) -/
inductive SV where
  | v (x : Value)
  | p (k r off : Nat)

def SV.val : SV → Value
  | .v x => x
  | .p _ r off => .pointer (some ⟨r, off, none⟩)

inductive LB where
  | mk (r ty : Nat) (cs : List SV)
  | dead

abbrev Env := List (Nat × SV)
abbrev HV := Nat → Option Obj

def look : Env → Nat → Option SV
  | [], _ => none
  | (k, s) :: l, t => match Nat.beq k t with
    | true => some s
    | false => look l t

def nth {α : Type} : List α → Nat → Option α
  | [], _ => none
  | s :: _, 0 => some s
  | _ :: l, n + 1 => nth l n

def setNth {α : Type} (x : α) : List α → Nat → List α
  | [], _ => []
  | _ :: l, 0 => x :: l
  | s :: l, n + 1 => s :: setNth x l n

/-- some cells over others from a place on -/
def setFrom {α : Type} : List α → Nat → List α → List α
  | [], _, _ => []
  | s :: l, n + 1, vs => s :: setFrom l n vs
  | s :: l, 0, [] => s :: l
  | _ :: l, 0, v :: vs => v :: setFrom l 0 vs

def len {α : Type} : List α → Nat
  | [] => 0
  | _ :: l => len l + 1

def setMany (arr : Array Value) (off : Nat) : List Value → Array Value
  | [] => arr
  | v :: vs => setMany (arr.setIfInBounds off v) (off + 1) vs

/-! ### types -/
inductive TK where
  | int (k : IntKind) | bool | str | ptr | slc (e : Nat) | arr (n e : Nat) | strct (fs : List (Nat × Nat × Bool)) | map (k e : Nat) | fn | other

structure TI where
  k : TK
  sz : Nat
  by_ : Nat
  z : List Value
  loc : Bool

def TK.agg : TK → Bool
  | .arr .. => true
  | .strct _ => true
  | _ => false

def lookT : List (Nat × TI) → Nat → Option TI
  | [], _ => none
  | (k, s) :: l, t => match Nat.beq k t with
    | true => some s
    | false => lookT l t

abbrev Tab := List (Nat × TI)

/-! ### operands and free operations -/
def ev (l : Env) : Operand → Option SV
  | .tmp t => look l t
  | .const x => some (.v x)
  | .global g => some (.v (.pointer (some ⟨g, 0, none⟩)))
  | .func f => some (.v (.func (.func f) #[] #[]))

def bitI (op : BinOp) (k : IntKind) (m n : Int) : Int :=
  match op with
  | .and => k.wrap (BitVec.toNat (BitVec.ofInt k.bits m &&& BitVec.ofInt k.bits n))
  | .or => k.wrap (BitVec.toNat (BitVec.ofInt k.bits m ||| BitVec.ofInt k.bits n))
  | .xor => k.wrap (BitVec.toNat (BitVec.ofInt k.bits m ^^^ BitVec.ofInt k.bits n))
  | _ => k.wrap (BitVec.toNat (BitVec.ofInt k.bits m &&& ~~~(BitVec.ofInt k.bits n)))

def binInt (op : BinOp) (k : IntKind) (m n : Int) : Option Value :=
  match op with
  | .add => some (.int k (k.wrap (m + n)))
  | .sub => some (.int k (k.wrap (m - n)))
  | .mul => some (.int k (k.wrap (m * n)))
  | .and => some (.int k (bitI .and k m n))
  | .or => some (.int k (bitI .or k m n))
  | .xor => some (.int k (bitI .xor k m n))
  | .andNot => some (.int k (bitI .andNot k m n))
  | .eql => some (.bool (decide (m = n)))
  | .neq => some (.bool (!decide (m = n)))
  | .lss => some (.bool (decide (m < n)))
  | .leq => some (.bool (decide (m ≤ n)))
  | .gtr => some (.bool (decide (m > n)))
  | .geq => some (.bool (decide (m ≥ n)))
  | _ => none

def eqIs (op : BinOp) (b : Bool) : Option SV :=
  match op with
  | .eql => some (.v (.bool b))
  | .neq => some (.v (.bool !b))
  | _ => none

def fbin (op : BinOp) (tk : TK) (x y : SV) : Option SV :=
  match x, y with
  | .v (.int k m), .v (.int k' n) => match decide (k = k') with
    | true => match binInt op k m n with
      | some v => some (.v v)
      | none => none
    | false => none
  | .v (.bool a), .v (.bool b) => match tk with
    | .bool => eqIs op (a == b)
    | _ => none
  | .v (.string a), .v (.string b) => eqIs op (a.toList == b.toList)
  | .v (.pointer (some _)), .v (.pointer none) => match tk with | .ptr => eqIs op false | _ => none
  | .v (.pointer none), .v (.pointer (some _)) => match tk with | .ptr => eqIs op false | _ => none
  | .v (.pointer none), .v (.pointer none) => match tk with | .ptr => eqIs op true | _ => none
  | .p _ _ _, .v (.pointer none) => match tk with | .ptr => eqIs op false | _ => none
  | .v (.slice (some _) _ _), .v (.slice none _ _) => match tk with | .slc _ => eqIs op false | _ => none
  | .v (.slice none _ _), .v (.slice none _ _) => match tk with | .slc _ => eqIs op true | _ => none
  | .v (.map (some _)), .v (.map none) => match tk with | .map _ _ => eqIs op false | _ => none
  | .v (.map none), .v (.map none) => match tk with | .map _ _ => eqIs op true | _ => none
  | _, _ => none

def minInt (a b : Int) : Int := if b < a then b else a
def maxInt (a b : Int) : Int := if b > a then b else a

/-- values out of operands -/
def evs (l : Env) : List Operand → Option (List SV)
  | [] => some []
  | x :: xs => match ev l x with
    | some s => match evs l xs with
      | some ss => some (s :: ss)
      | none => none
    | none => none

def takeV : Nat → Nat → List Value → Option (List Value)
  | _, 0, _ => some []
  | _, _ + 1, [] => none
  | 0, n + 1, v :: l => match takeV 0 n l with
    | some r => some (v :: r)
    | none => none
  | o + 1, n + 1, _ :: l => takeV o (n + 1) l

def fev (T : Tab) (l : Env) (o : Op) : Option SV :=
  match o with
  | .move x => ev l x
  | .assign x => ev l x
  | .pick c a b => match ev l c with
    | some (.v (.bool true)) => ev l a
    | some (.v (.bool false)) => ev l b
    | _ => none
  | .nilCheck x => match ev l x with
    | some (.v (.pointer (some a))) => some (.v (.pointer (some a)))
    | some (.p k r o) => some (.p k r o)
    | some (.v (.func (.func f) a b)) => some (.v (.func (.func f) a b))
    | _ => none
  | .binOp op t x y _ => match ev l x with
    | some a => match ev l y with
      | some b => match lookT T t with
        | some ti => fbin op ti.k a b
        | none => none
      | none => none
    | none => none
  | .unOp op _ x => match op with
    | .not => match ev l x with
      | some (.v (.bool b)) => some (.v (.bool !b))
      | _ => none
    | .neg => match ev l x with
      | some (.v (.int k n)) => some (.v (.int k (k.wrap (0 - n))))
      | _ => none
    | .xor => match ev l x with
      | some (.v (.int k n)) => some (.v (.int k (bitI .xor k (if k.signed then -1 else k.max) n)))
      | _ => none
    | _ => none
  | .convert src dst x => match lookT T dst with
    | some ti => match ti.k with
      | .int k => match lookT T src with
        | some tj => match tj.k with
          | .int _ => match ev l x with
            | some (.v (.int _ n)) => some (.v (.int k (k.wrap n)))
            | _ => none
          | _ => none
        | none => none
      | _ => none
    | none => none
  | .fieldAddr t x f => match lookT T t with
    | some ti => match ti.k with
      | .strct fs => match nth fs f with
        | some (o, sz, _) => match sz with
          | 0 => none
          | _ + 1 => match ev l x with
            | some (.v (.pointer (some ⟨b, off, none⟩))) => some (.v (.pointer (some ⟨b, off + o, none⟩)))
            | some (.p k r off) => some (.p k r (off + o))
            | _ => none
        | none => none
      | _ => none
    | none => none
  | .field t x f => match lookT T t with
    | some ti => match ti.k with
      | .strct fs => match nth fs f with
        | some (o, sz, ag) => match ev l x with
          | some (.v (.agg ⟨vs⟩)) => match ag with
            | false => match nth vs o with
              | some v => some (.v v)
              | none => none
            | true => match takeV o sz vs with
              | some ws => some (.v (.agg ⟨ws⟩))
              | none => none
          | _ => none
        | none => none
      | _ => none
    | none => none
  | .extract x i => match ev l x with
    | some (.v (.tuple ⟨vs⟩)) => match nth vs i with
      | some v => some (.v v)
      | none => none
    | _ => none
  | .call c => match c.callee with
    | .builtin .len => match c.args with
      | ⟨[x]⟩ => match c.argTypes with
        | ⟨t :: _⟩ => match lookT T t with
          | some ti => match ti.k with
            | .slc _ => match ev l x with
              | some (.v (.slice _ n _)) => some (.v (.int .i64 n))
              | _ => none
            | .str => match ev l x with
              | some (.v (.string s)) => some (.v (.int .i64 s.size))
              | _ => none
            | .arr n _ => some (.v (.int .i64 n))
            | _ => none
          | none => none
        | _ => none
      | _ => none
    | .builtin .min => match c.args with
      | ⟨[x, y]⟩ => match ev l x with
        | some (.v (.int k a)) => match ev l y with
          | some (.v (.int _ b)) => some (.v (.int k (minInt a b)))
          | _ => none
        | _ => none
      | _ => none
    | .builtin .max => match c.args with
      | ⟨[x, y]⟩ => match ev l x with
        | some (.v (.int k a)) => match ev l y with
          | some (.v (.int _ b)) => some (.v (.int k (maxInt a b)))
          | _ => none
        | _ => none
      | _ => none
    | _ => none
  | _ => none

/-! ### the stops -/
def vif (b : Bool) (p q : Prop) : Prop := match b with | true => p | false => q

/-- A larger view of the memory outside: one block more. -/
structure Ext (H H' : HV) (r : Nat) (o : Obj) : Prop where
  new : H' r = some o
  old : ∀ i x, H i = some x → H' i = some x

/-- One block of the memory outside is another one. -/
structure Upd (H H' : HV) (b : Nat) (o : Obj) : Prop where
  new : H' b = some o
  old : ∀ i x, i ≠ b → H i = some x → H' i = some x

def RdC (H : HV) (b off : Nat) (v : Value) : Prop := ∃ arr ty fr, H b = some (.cells arr ty fr) ∧ arr[off]? = some v
def RdA (H : HV) (b off sz : Nat) (vs : Array Value) : Prop := ∃ arr ty fr, H b = some (.cells arr ty fr) ∧ off + sz ≤ arr.size ∧ vs = arr.extract off (off + sz)

def extLoad (H : HV) (ti : TI) (b off : Nat) (K : SV → Prop) : Prop :=
  match ti.k.agg with
  | false => ∃ v, RdC H b off v ∧ K (.v v)
  | true => ∃ vs, RdA H b off ti.sz vs ∧ K (.v (.agg vs))

def notFr (fr : Nat × Nat) (off n : Nat) : Prop := off + n ≤ fr.1 ∨ fr.2 ≤ off ∨ n = 0

def extStore (B : Nat) (M : Nat → Prop) (H : HV) (b off : Nat) (vs : List Value) (K : HV → Prop) : Prop :=
  ∃ arr ty fr, H b = some (.cells arr ty fr) ∧ off + vs.length ≤ arr.size ∧ notFr fr off vs.length ∧ (M b ∨ B ≤ b) ∧ (∀ v ∈ vs, v.oneCell' = true) ∧
    ∀ H', Upd H H' b (.cells (setMany arr off vs) ty fr) → K H'

/-- a small number, computed first -/
def forceN : Nat → (Nat → Prop) → Prop
  | 0, K => K 0
  | n + 1, K => forceN n (fun m => K (m + 1))

/-- a list, its spine computed first -/
def forceL {α : Type} : List α → (List α → Prop) → Prop
  | [], K => K []
  | x :: xs, K => forceL xs (fun l => K (x :: l))

/-- a pointer to an own block goes out: the block is of the memory outside from now on -/
def expo (s : SV) (h : List LB) (H : HV) (K : Value → List LB → HV → Prop) : Prop :=
  match s with
  | .v x => K x h H
  | .p k r off => match nth h k with
    | some (.mk _ ty cs) => forceL (cs.map SV.val) (fun cv => ∀ H' : HV, Ext H H' r (.cells ⟨cv⟩ ty (0, 0)) → forceL (setNth .dead h k) (fun h' => K (.pointer (some ⟨r, off, none⟩)) h' H'))
    | _ => K (.pointer (some ⟨r, off, none⟩)) h H

def expos : List SV → List LB → HV → (List Value → List LB → HV → Prop) → Prop
  | [], h, H, K => K [] h H
  | s :: ss, h, H, K => expo s h H (fun v h H => expos ss h H (fun vs h H => K (v :: vs) h H))

def svs : List Value → (List SV → Prop) → Prop
  | [], K => K []
  | v :: vs, K => svs vs (fun ss => K (.v v :: ss))

def snoc {α : Type} (x : α) : List α → List α
  | [] => [x]
  | y :: l => y :: snoc x l

def newOwn (B : Nat) (t : Nat) (cs : List SV) (h : List LB) (H : HV) (K : SV → List LB → HV → Prop) : Prop :=
  ∀ r, B ≤ r → H r = none → forceL (snoc (.mk r t cs) h) (fun h' => forceN (len h) (fun k => K (.p k r 0) h' H))

def newExt (B : Nat) (o : Obj) (H : HV) (K : Nat → HV → Prop) : Prop :=
  ∀ r H', B ≤ r → H r = none → Ext H H' r o → K r H'

def hasB (P : Program) (f : Nat) : Bool :=
  match P.funcs[f]? with
  | some fn => (fn.name != "runtime.NumGoroutine") && !fn.body.isNone
  | none => false

structure VCall (P : Program) (B : Nat) (f : Nat) (args : List Value) (h : List LB) (H : HV) (D : List LB → HV → World → Prop) (K : Value → HV → Prop) : Prop where
  has : hasB P f = true
  out : ∀ w, D h H w → Calls P f args.toArray w (fun e w' => ∃ v H', e = .returned v ∧ D h H' w' ∧ K v H')

/-- parts of a struct or an array laid into its zero cells -/
def fillL (place : Nat → Option (Nat × Nat)) (cells : List Value) : List (Nat × Value) → Option (List Value)
  | [] => some cells
  | (i, v) :: rest => match place i with
    | some (off, sz) => match v with
      | .agg ⟨vs⟩ => match Nat.beq (len vs) sz with
        | true => match Nat.ble (off + len vs) (len cells) with
          | true => fillL place (setFrom cells off vs) rest
          | false => none
        | false => none
      | v => match Nat.beq 1 sz with
        | true => match Nat.ble (off + 1) (len cells) with
          | true => fillL place (setFrom cells off [v]) rest
          | false => none
        | false => none
    | none => none

def placeS (fs : List (Nat × Nat × Bool)) (i : Nat) : Option (Nat × Nat) :=
  match nth fs i with
  | some (o, s, _) => some (o, s)
  | none => none

def placeA (sz i : Nat) : Option (Nat × Nat) := some (i * sz, sz)

def cellsOf (v : Value) : List Value := v.cells.toList

/-- the keys of a map -/
def keyIs : TK → Value → Prop
  | .int k, v => ∃ n, v = .int k n
  | .str, v => ∃ s, v = .string s
  | _, _ => False

def sameKey : Value → Value → Bool
  | .int _ a, .int _ b => decide (a = b)
  | .string a, .string b => a == b
  | _, _ => false

def mfind (k : Value) : List MapEntry → Option Value
  | [] => none
  | e :: es => if sameKey k e.key = true then some e.val else mfind k es

def mset (k v : Value) : List MapEntry → List MapEntry
  | [] => []
  | e :: es => if sameKey k e.key = true then { e with key := k, val := v } :: es else e :: mset k v es

def mput (k v : Value) (es : List MapEntry) (c : Nat) : List MapEntry × Nat :=
  if (mfind k es).isSome = true then (mset k v es, c) else (es ++ [{ key := k, val := v, born := c }], c + 1)

def mdel (k : Value) : List MapEntry → List MapEntry
  | [] => []
  | e :: es => if sameKey k e.key = true then es else e :: mdel k es

/-- the cells of a slice or of a string, as far as they are asked -/
def RdS (H : HV) (sz n : Nat) : Value → List Value → Prop
  | .slice (some ⟨b, off, none⟩) _ _, vs => ∃ arr ty fr, H b = some (.cells arr ty fr) ∧ off + n * sz ≤ arr.size ∧ vs = (arr.extract off (off + n * sz)).toList
  | .slice none _ _, vs => vs = []
  | .string s, vs => vs = ((s.extract 0 n).data.map fun b => Value.int .u8 b.toNat).toList
  | _, _ => False

def bytesV (bs : List UInt8) : List Value := bs.map fun b => .int .u8 b.toNat


/-! The engine goes by: P the program, T its types, B where the call's own blocks begin, M what may turn, D what is known of the world. -/

abbrev KS := SV → List LB → HV → Prop

def sizeT (T : Tab) (e : Nat) (K : Nat → Prop) : Prop :=
  match lookT T e with
  | some ti => K ti.sz
  | none => False

def boundI (l : Env) : Option Operand → Option (Option Int)
  | none => some none
  | some x => match ev l x with
    | some (.v (.int _ n)) => some (some n)
    | _ => none

/-- low, high, most of a slice expression: what must hold, and the three numbers -/
def sliceAt (len_ cap : Nat) (lo hi mx : Option Int) (K : Nat → Nat → Nat → Prop) : Prop :=
  match mx with
  | none => match hi with
    | none => match lo with
      | none => K 0 len_ cap
      | some l => (0 ≤ l ∧ l ≤ len_) ∧ K l.toNat len_ cap
    | some h => match lo with
      | none => (0 ≤ h ∧ h ≤ cap) ∧ K 0 h.toNat cap
      | some l => (0 ≤ l ∧ l ≤ h ∧ h ≤ cap) ∧ K l.toNat h.toNat cap
  | some m => match hi with
    | none => False
    | some h => match lo with
      | none => (0 ≤ h ∧ h ≤ m ∧ m ≤ cap) ∧ K 0 h.toNat m.toNat
      | some l => (0 ≤ l ∧ l ≤ h ∧ h ≤ m ∧ m ≤ cap) ∧ K l.toNat h.toNat m.toNat

def dstK (lo : Option Int) (b off i j m sz : Nat) (K : SV → Prop) : Prop :=
  match lo with
  | none => K (.v (.slice (some ⟨b, off, none⟩) j m))
  | some _ => K (.v (.slice (some ⟨b, if m = i then off else off + i * sz, none⟩) (j - i) (m - i)))

def allOne : List Value → Bool
  | [] => true
  | .agg _ :: _ => false
  | .tuple _ :: _ => false
  | _ :: l => allOne l

def zeroL (n : Nat) (z : List Value) : List Value := (List.replicate n z).flatten

def appendStopD (B : Nat) (M : Nat → Prop) (h : List LB) (H : HV) (e sz by_ : Nat) (z : List Value) (base : Option Addr) (sLen sCap n : Nat) (x : Value) (K : KS) : Prop :=
  ∃ olds news : List Value, RdS H sz sLen (.slice base sLen sCap) olds ∧ RdS H sz n x news ∧ (∀ v ∈ news, v.oneCell' = true) ∧ 1 ≤ by_ ∧ (sCap < sLen + n → Builtin.nextslicecap (sLen + n) sCap * by_ ≤ 281474976710656) ∧
    (sLen + n ≤ sCap → match base with
      | some ⟨b, off, none⟩ => ∃ arr ty fr, H b = some (.cells arr ty fr) ∧ off + sLen * sz + news.length ≤ arr.size ∧ notFr fr (off + sLen * sz) news.length ∧ (M b ∨ B ≤ b) ∧
          ∀ H', Upd H H' b (.cells (setMany arr (off + sLen * sz) news) ty fr) → K (.v (.slice base (sLen + n) sCap)) h H'
      | none => K (.v (.slice none (sLen + n) sCap)) h H
      | _ => False) ∧
    (sCap < sLen + n → ∀ r cap H', B ≤ r → H r = none → sLen + n ≤ cap → Ext H H' r (.cells (olds ++ news ++ zeroL (cap - (sLen + n)) z).toArray e (0, 0)) →
      K (.v (.slice (some ⟨r, 0, none⟩) (sLen + n) cap)) h H')

structure appendStop (B : Nat) (M : Nat → Prop) (h : List LB) (H : HV) (e sz by_ : Nat) (z : List Value) (base : Option Addr) (sLen sCap n : Nat) (x : Value) (K : KS) : Prop where
  out : appendStopD B M h H e sz by_ z base sLen sCap n x K

def okK (ok b : Bool) (v : Value) (K : SV → Prop) : Prop :=
  match ok with
  | true => K (.v (.tuple #[v, .bool b]))
  | false => K (.v v)

def missK (te : TI) (ok : Bool) (K : SV → Prop) : Prop :=
  match te.k.agg with
  | false => match te.z with
    | [z] => okK ok false z K
    | _ => False
  | true => okK ok false (.agg ⟨te.z⟩) K

/-- the cells of a slice that is written out; one struct or array alone is taken as it is -/
def fillS (sz n : Nat) (z : List Value) (pv : List (Nat × Value)) (K : List Value → Prop) : Prop :=
  match n with
  | 1 => match pv with
    | [(0, .agg ⟨us⟩)] => us.length = sz ∧ K us
    | pv => match fillL (placeA sz) (zeroL 1 z) pv with
      | some cs => forceL cs K
      | none => False
  | n => match fillL (placeA sz) (zeroL n z) pv with
    | some cs => forceL cs K
    | none => False

def exStop (P : Program) (T : Tab) (B : Nat) (M : Nat → Prop) (D : List LB → HV → World → Prop) (o : Op) (l : Env) (h : List LB) (H : HV) (K : KS) : Prop :=
  match o with
  | .load t x => match lookT T t with
    | some ti => match ev l x with
      | some (.p k r off) => match nth h k with
        | some (.mk _ _ cs) => match ti.k.agg with
          | false => match nth cs off with
            | some s => K s h H
            | none => False
          | true => match takeV off ti.sz (cs.map SV.val) with
            | some vs => K (.v (.agg ⟨vs⟩)) h H
            | none => False
        | _ => extLoad H ti r off (fun s => K s h H)
      | some (.v (.pointer (some ⟨b, off, none⟩))) => extLoad H ti b off (fun s => K s h H)
      | _ => False
    | none => False
  | .store t x y => match lookT T t with
    | some ti => match ev l x with
      | some (.p k r off) => match nth h k with
        | some (.mk r' ty cs) => match ev l y with
          | some (.v (.agg ⟨vs⟩)) => match Nat.beq (len vs) ti.sz with
            | true => match Nat.ble (off + len vs) (len cs) with
              | true => match allOne vs with
                | true => svs vs (fun ss => forceL (setFrom cs off ss) (fun cs' => forceL (setNth (.mk r' ty cs') h k) (fun h' => K (.v undef) h' H)))
                | false => False
              | false => False
            | false => False
          | some (.v (.tuple _)) => False
          | some s => match Nat.beq 1 ti.sz with
            | true => match Nat.ble (off + 1) (len cs) with
              | true => forceL (setFrom cs off [s]) (fun cs' => forceL (setNth (.mk r' ty cs') h k) (fun h' => K (.v undef) h' H))
              | false => False
            | false => False
          | none => False
        | _ => match ev l y with
          | some s => expo s h H (fun v h H => (cellsOf v).length = ti.sz ∧ extStore B M H r off (cellsOf v) (fun H => K (.v undef) h H))
          | none => False
      | some (.v (.pointer (some ⟨b, off, none⟩))) => match ev l y with
        | some s => expo s h H (fun v h H => (cellsOf v).length = ti.sz ∧ extStore B M H b off (cellsOf v) (fun H => K (.v undef) h H))
        | none => False
      | _ => False
    | none => False
  | .box t x => match lookT T t with
    | some ti => match ti.loc with
      | true => match ev l x with
        | some (.v (.agg ⟨vs⟩)) => svs vs (fun ss => newOwn B t ss h H K)
        | some s => newOwn B t [s] h H K
        | none => False
      | false => match ev l x with
        | some s => expo s h H (fun v h H => newExt B (.cells v.cells t (0, 0)) H (fun r H => K (.v (.pointer (some ⟨r, 0, none⟩))) h H))
        | none => False
    | none => False
  | .alloc t => match lookT T t with
    | some ti => match ti.loc with
      | true => svs ti.z (fun ss => newOwn B t ss h H K)
      | false => newExt B (.cells ⟨ti.z⟩ t (0, 0)) H (fun r H => K (.v (.pointer (some ⟨r, 0, none⟩))) h H)
    | none => False
  | .build t parts => match lookT T t with
    | some ti => match evs l (parts.toList.map (·.2)) with
      | some ss => expos ss h H (fun vs h H =>
          match ti.k with
          | .strct fs => match fillL (placeS fs) ti.z ((parts.toList.map (·.1)).zip vs) with
            | some cs => forceL cs (fun cs => K (.v (.agg ⟨cs⟩)) h H)
            | none => False
          | .arr _ e => sizeT T e (fun sz => match fillL (placeA sz) ti.z ((parts.toList.map (·.1)).zip vs) with
            | some cs => forceL cs (fun cs => K (.v (.agg ⟨cs⟩)) h H)
            | none => False)
          | _ => False)
      | none => False
    | none => False
  | .buildSlice t n parts => match lookT T t with
    | some ti => match ti.k with
      | .slc e => match lookT T e with
        | some te => match evs l (parts.toList.map (·.2)) with
          | some ss => expos ss h H (fun vs h H =>
              fillS te.sz n te.z ((parts.toList.map (·.1)).zip vs) (fun cs => (n * te.sz ≤ 2 ^ 24) ∧ newExt B (.cells ⟨cs⟩ e (0, 0)) H (fun r H => K (.v (.slice (some ⟨r, 0, none⟩) n n)) h H)))
          | none => False
        | none => False
      | _ => False
    | none => False
  | .makeSlice t x y => match lookT T t with
    | some ti => match ti.k with
      | .slc e => match lookT T e with
        | some te => match ev l x with
          | some (.v (.int _ m)) => match ev l y with
            | some (.v (.int _ c)) => (0 ≤ m ∧ m ≤ c ∧ c ≤ 9223372036854775807 ∧ te.by_ * c ≤ 281474976710656) ∧
                newExt B (.cells ⟨zeroL c.toNat te.z⟩ e (0, 0)) H (fun r H => K (.v (.slice (some ⟨r, 0, none⟩) m.toNat c.toNat)) h H)
            | _ => False
          | _ => False
        | none => False
      | _ => False
    | none => False
  | .makeMap _ none => newExt B (.map #[] 0) H (fun r H => K (.v (.map (some r))) h H)
  | .lookup t m x ok => match lookT T t with
    | some ti => match ti.k with
      | .map kt et => match lookT T kt with
        | some tk => match lookT T et with
          | some te => match ev l x with
            | some (.v key) => match ev l m with
              | some (.v (.map (some b))) => ∃ es c, H b = some (.map es c) ∧ keyIs tk.k key ∧ (∀ e ∈ es.toList, keyIs tk.k e.key) ∧
                  (∀ v, mfind key es.toList = some v → okK ok true v (fun s => K s h H)) ∧ (mfind key es.toList = none → missK te ok (fun s => K s h H))
              | some (.v (.map none)) => keyIs tk.k key ∧ missK te ok (fun s => K s h H)
              | _ => False
            | _ => False
          | none => False
        | none => False
      | _ => False
    | none => False
  | .mapUpdate t m x y => match lookT T t with
    | some ti => match ti.k with
      | .map kt et => match lookT T kt with
        | some tk => match ev l x with
          | some (.v key) => match ev l m with
            | some (.v (.map (some b))) => match ev l y with
              | some s => expo s h H (fun v h H => ∃ es c, H b = some (.map es c) ∧ keyIs tk.k key ∧ (∀ e ∈ es.toList, keyIs tk.k e.key) ∧ (M b ∨ B ≤ b) ∧
                  ∀ H', Upd H H' b (.map (mput key v es.toList c).1.toArray (mput key v es.toList c).2) → K (.v undef) h H')
              | none => False
            | _ => False
          | _ => False
        | none => False
      | _ => False
    | none => False
  | .slice t x lo hi mx => match lookT T t with
    | some ti => match boundI l lo with
      | some lo' => match boundI l hi with
        | some hi' => match boundI l mx with
          | some mx' => match ti.k with
            | .slc e => match ev l x with
              | some (.v (.slice (some ⟨b, off, none⟩) n c)) => sizeT T e (fun sz => sliceAt n c lo' hi' mx' (fun i j m => dstK lo' b off i j m sz (fun s => K s h H)))
              | some (.v (.slice none n c)) => sizeT T e (fun sz => sliceAt n c lo' hi' mx' (fun i j m => K (.v (.slice none (j - i) (m - i))) h H))
              | _ => False
            | .arr n e => match ev l x with
              | some (.v (.pointer (some ⟨b, off, none⟩))) => sizeT T e (fun sz => sliceAt n n lo' hi' mx' (fun i j m => dstK lo' b off i j m sz (fun s => K s h H)))
              | _ => False
            | .str => match ev l x with
              | some (.v (.string s)) => match mx' with
                | none => sliceAt s.size s.size lo' hi' none (fun i j _ => K (.v (.string (s.extract i j))) h H)
                | some _ => False
              | _ => False
            | _ => False
          | none => False
        | none => False
      | none => False
    | none => False
  | .indexAddr t x i => match lookT T t with
    | some ti => match ev l i with
      | some (.v (.int _ n)) => match ti.k with
        | .slc e => match ev l x with
          | some (.v (.slice (some ⟨b, off, none⟩) m c)) => (0 ≤ n ∧ n < m) ∧ sizeT T e (fun sz => K (.v (.pointer (some ⟨b, off + n.toNat * sz, none⟩))) h H)
          | _ => False
        | .arr m e => match ev l x with
          | some (.v (.pointer (some ⟨b, off, none⟩))) => (0 ≤ n ∧ n < m) ∧ sizeT T e (fun sz => K (.v (.pointer (some ⟨b, off + n.toNat * sz, none⟩))) h H)
          | _ => False
        | _ => False
      | _ => False
    | none => False
  | .index t x i => match lookT T t with
    | some ti => match ev l i with
      | some (.v (.int _ n)) => match ti.k with
        | .arr m e => match ev l x with
          | some (.v (.agg vs)) => match lookT T e with
            | some te => (0 ≤ n ∧ n < m) ∧ match te.k.agg with
              | false => ∃ v, vs[n.toNat * te.sz]? = some v ∧ K (.v v) h H
              | true => K (.v (.agg (vs.extract (n.toNat * te.sz) (n.toNat * te.sz + te.sz)))) h H
            | none => False
          | _ => False
        | .str => match ev l x with
          | some (.v (.string s)) => (0 ≤ n ∧ n < s.size) ∧ K (.v (.int .u8 (s.data.getD n.toNat 0).toNat)) h H
          | _ => False
        | _ => False
      | _ => False
    | none => False
  | .binOp op t x y _ => match ev l x with
    | some (.v (.int k a)) => match ev l y with
      | some (.v (.int k' b)) => match op with
        | .quo => match decide (k = k') with
          | true => b ≠ 0 ∧ K (.v (.int k (k.wrap (a.tdiv b)))) h H
          | false => False
        | .rem => match decide (k = k') with
          | true => b ≠ 0 ∧ K (.v (.int k (a.tmod b))) h H
          | false => False
        | .shl => 0 ≤ b ∧ K (.v (.int k (k.wrap (a * 2 ^ min b.toNat k.bits)))) h H
        | .shr => 0 ≤ b ∧ K (.v (.int k (a.fdiv (2 ^ min b.toNat k.bits)))) h H
        | _ => False
      | _ => False
    | some (.v (.agg xs)) => match ev l y with
      | some (.v (.agg ys)) => match op with
        | .eql => (∀ w, (eqGuard op t x y (.agg xs) (.agg ys)).run P w = .ok () w) ∧ ∃ b, (∀ w, (Op.equal t (.agg xs) (.agg ys)).run P w = .ok b w) ∧ K (.v (.bool b)) h H
        | .neq => (∀ w, (eqGuard op t x y (.agg xs) (.agg ys)).run P w = .ok () w) ∧ ∃ b, (∀ w, (Op.equal t (.agg xs) (.agg ys)).run P w = .ok b w) ∧ K (.v (.bool !b)) h H
        | _ => False
      | _ => False
    | some (.v (.pointer (some a))) => match ev l y with
      | some (.v (.pointer (some b))) => ∃ v, (∀ w, (Go.binOp op t (.pointer (some a)) (.pointer (some b))).run P w = .ok v w) ∧ K (.v v) h H
      | _ => False
    | some (.v (.string a)) => match ev l y with
      | some (.v (.string b)) => match op with
        | .add => (a.size + b.size ≤ 9223372036854775807) ∧ K (.v (.string (a ++ b))) h H
        | _ => False
      | _ => False
    | _ => False
  | .sliceToArrayPointer t x => match lookT T t with
    | some ti => match ti.k with
      | .arr n _ => match ev l x with
        | some (.v (.slice a m c)) => n ≤ m ∧ K (.v (.pointer a)) h H
        | _ => False
      | _ => False
    | none => False
  | .convert src dst x => match lookT T src with
    | some ts => match lookT T dst with
      | some td => match ts.k with
        | .slc e => match td.k with
          | .str => match lookT T e with
            | some te => match te.k with
              | .int .u8 => match ev l x with
                | some (.v (.slice a n c)) => ∃ bs : List UInt8, bs.length = n ∧ RdS H 1 n (.slice a n c) (bytesV bs) ∧ K (.v (.string ⟨bs.toArray⟩)) h H
                | _ => False
              | _ => False
            | none => False
          | _ => False
        | .str => match td.k with
          | .slc e => match lookT T e with
            | some te => match te.k with
              | .int .u8 => match ev l x with
                | some (.v (.string s)) => ∀ cap, s.size ≤ cap →
                    newExt B (.cells (bytesV s.data.toList ++ zeroL (cap - s.size) [.int .u8 0]).toArray e (cap, cap + 1)) H (fun r H => K (.v (.slice (some ⟨r, 0, none⟩) s.size cap)) h H)
                | _ => False
              | _ => False
            | none => False
          | .str => match ev l x with
            | some (.v (.string s)) => K (.v (.string s)) h H
            | _ => False
          | _ => False
        | _ => False
      | none => False
    | none => False
  | .makeFunc fn first cap => match evs l first.toList with
    | some fs => match evs l cap.toList with
      | some cs => expos fs h H (fun fv h H => expos cs h H (fun cv h H => K (.v (.func fn ⟨fv⟩ ⟨cv⟩)) h H))
      | none => False
    | none => False
  | .call c => match c.callee with
    | .value f => match ev l f with
      | some (.v (.func (.func g) ⟨fi⟩ ⟨ca⟩)) => match evs l c.args.toList with
        | some ss => expos ss h H (fun vs h H => VCall P B g (fi ++ (vs ++ ca)) h H D (fun v H => K (.v v) h H))
        | none => False
      | _ => False
    | .builtin .append => match c.argTypes with
      | ⟨[t, t2]⟩ => match lookT T t with
        | some ti => match ti.k with
          | .slc e => match lookT T e with
            | some te => match lookT T t2 with
              | some ti2 => match c.args with
                | ⟨[s, x]⟩ => match ev l s with
                  | some (.v (.slice base n c')) => match ti2.k with
                    | .slc _ => match ev l x with
                      | some (.v (.slice a m c'')) => appendStop B M h H e te.sz te.by_ te.z base n c' m (.slice a m c'') K
                      | _ => False
                    | .str => match ev l x with
                      | some (.v (.string s)) => appendStop B M h H e te.sz te.by_ te.z base n c' s.size (.string s) K
                      | _ => False
                    | _ => False
                  | _ => False
                | _ => False
              | none => False
            | none => False
          | _ => False
        | none => False
      | _ => False
    | .builtin .copy => match c.argTypes with
      | ⟨t :: _⟩ => match lookT T t with
        | some ti => match ti.k with
          | .slc e => match lookT T e with
            | some te => match c.args with
              | ⟨[d, x]⟩ => match ev l d with
                | some (.v (.slice (some ⟨b, off, none⟩) n _)) => match ev l x with
                  | some (.v (.slice a m c'')) => ∃ news, RdS H te.sz (min m n) (.slice a m c'') news ∧ extStore B M H b off news (fun H => K (.v (.int .i64 (min m n : Nat))) h H)
                  | some (.v (.string s)) => ∃ news, RdS H te.sz (min s.size n) (.string s) news ∧ extStore B M H b off news (fun H => K (.v (.int .i64 (min s.size n : Nat))) h H)
                  | _ => False
                | some (.v (.slice none n _)) => match ev l x with
                  | some (.v (.slice a m c'')) => ∃ news, RdS H te.sz (min m n) (.slice a m c'') news ∧ K (.v (.int .i64 (min m n : Nat))) h H
                  | _ => False
                | _ => False
              | _ => False
            | none => False
          | _ => False
        | none => False
      | _ => False
    | .builtin .delete => match c.argTypes with
      | ⟨t :: _⟩ => match lookT T t with
        | some ti => match ti.k with
          | .map kt _ => match lookT T kt with
            | some tk => match c.args with
              | ⟨[m, x]⟩ => match ev l x with
                | some (.v key) => match ev l m with
                  | some (.v (.map (some b))) => ∃ es c, H b = some (.map es c) ∧ keyIs tk.k key ∧ (∀ e ∈ es.toList, keyIs tk.k e.key) ∧ (M b ∨ B ≤ b) ∧
                      ∀ H', Upd H H' b (.map (mdel key es.toList).toArray c) → K (.v (.tuple #[])) h H'
                  | _ => False
                | _ => False
              | _ => False
            | none => False
          | _ => False
        | none => False
      | _ => False
    | .builtin .clear => match c.argTypes with
      | ⟨t :: _⟩ => match lookT T t with
        | some ti => match ti.k with
          | .map _ _ => match c.args with
            | ⟨[m]⟩ => match ev l m with
              | some (.v (.map (some b))) => ∃ es c, H b = some (.map es c) ∧ (M b ∨ B ≤ b) ∧ ∀ H', Upd H H' b (.map #[] c) → K (.v (.tuple #[])) h H'
              | _ => False
            | _ => False
          | .slc e => match lookT T e with
            | some te => match c.args with
              | ⟨[m]⟩ => match ev l m with
                | some (.v (.slice none _ _)) => K (.v (.tuple #[])) h H
                | some (.v (.slice (some ⟨b, off, none⟩) n _)) => (n = 0 → K (.v (.tuple #[])) h H) ∧ (n ≠ 0 → extStore B M H b off (zeroL n te.z) (fun H => K (.v (.tuple #[])) h H))
                | _ => False
              | _ => False
            | none => False
          | _ => False
        | none => False
      | _ => False
    | .builtin .len => match c.argTypes with
      | ⟨t :: _⟩ => match lookT T t with
        | some ti => match ti.k with
          | .map _ _ => match c.args with
            | ⟨[m]⟩ => match ev l m with
              | some (.v (.map (some b))) => ∃ es c, H b = some (.map es c) ∧ K (.v (.int .i64 es.size)) h H
              | some (.v (.map none)) => K (.v (.int .i64 0)) h H
              | _ => False
            | _ => False
          | _ => False
        | none => False
      | _ => False
    | _ => False
  | .range t x => match lookT T t with
    | some ti => match ti.k with
      | .map _ _ => match ev l x with
        | some (.v (.map (some b))) => ∃ es c, H b = some (.map es c) ∧ newExt B (.mapIter (some b) c #[] c) H (fun r H => K (.v (.pointer (some ⟨r, 0, none⟩))) h H)
        | _ => False
      | _ => False
    | none => False
  | .next x false => match ev l x with
    | some (.v (.pointer (some ⟨r, 0, none⟩))) => ∃ m since seen last es c, H r = some (.mapIter (some m) since seen last) ∧ H m = some (.map es c) ∧ (M r ∨ B ≤ r) ∧ c = last ∧ c = since ∧ (∀ e ∈ es.toList, e.born < c) ∧
        ((∀ e ∈ es.toList, e.born ∈ seen.toList) → K (.v (.tuple #[.bool false])) h H) ∧
        (∀ e ∈ es.toList, e.born ∉ seen.toList → ∀ H', Upd H H' r (.mapIter (some m) since (seen.push e.born) c) → K (.v (.tuple #[.bool true, e.key, e.val])) h H')
    | _ => False
  | .entry x => match ev l x with
    | some (.v (.pointer (some ⟨r, 0, none⟩))) => ∃ m since seen es c e, H r = some (.mapIter (some m) since seen c) ∧ H m = some (.map es c) ∧ seen.back? = some e.born ∧ es.find? (·.born == e.born) = some e ∧ K (.v (.tuple #[e.key, e.val])) h H
    | _ => False
  | _ => False

def putD (l : Env) (d : Option Tmp) (s : SV) : Env :=
  match d with
  | some d => (d, s) :: l
  | none => l

def putK (l : Env) (d : Option Tmp) (s : SV) (K : Env → Prop) : Prop :=
  match d with
  | some d => K ((d, s) :: l)
  | none => K l

def exOp (P : Program) (T : Tab) (B : Nat) (M : Nat → Prop) (D : List LB → HV → World → Prop) (o : Oper) (l : Env) (h : List LB) (H : HV) (K : Env → List LB → HV → Prop) : Prop :=
  match fev T l o.op with
  | some s => putK l o.dst s (fun l => K l h H)
  | none => exStop P T B M D o.op l h H (fun s h H => putK l o.dst s (fun l => K l h H))

def guardOf (ops : Array Oper) (l : Env) (g : Nat) : Option (Tmp × Bool) :=
  match nth ops.toList g with
  | some o => match o.dst with
    | some d => match look l d with
      | some (.v (.bool b)) => some (d, b)
      | _ => none
    | none => none
  | none => none

def exOps (P : Program) (T : Tab) (B : Nat) (M : Nat → Prop) (D : List LB → HV → World → Prop) (ops : Array Oper) (K : Env → List LB → HV → Prop) : List Oper → Env → List LB → HV → Prop
  | [], l, h, H => K l h H
  | o :: rest, l, h, H => match o.guard with
    | none => exOp P T B M D o l h H (exOps P T B M D ops K rest)
    | some (g, want) => match guardOf ops l g with
      | some (d, b) => match want with
        | true => vif b (exOp P T B M D o ((d, .v (.bool true)) :: l) h H (exOps P T B M D ops K rest)) (putK ((d, .v (.bool false)) :: l) o.dst (.v undef) (fun l => exOps P T B M D ops K rest l h H))
        | false => vif b (putK ((d, .v (.bool true)) :: l) o.dst (.v undef) (fun l => exOps P T B M D ops K rest l h H)) (exOp P T B M D o ((d, .v (.bool false)) :: l) h H (exOps P T B M D ops K rest))
      | none => False

/-! ### what the state says of the world -/

def hp (w : World) : HV := fun i => w.heap[i]?

/-- w' is w, but for blocks in M and new ones -/
structure Kp (M : Nat → Prop) (w w' : World) : Prop where
  os : w'.os = w.os
  tape : w'.tape = w.tape
  output : w'.output = w.output
  size : w.heap.size ≤ w'.heap.size
  old : ∀ i, i < w.heap.size → ¬ M i → w'.heap[i]? = w.heap[i]?

def okSV (h : List LB) : SV → Prop
  | .v _ => True
  | .p k r _ => nth h k = some .dead ∨ ∃ ty cs, nth h k = some (.mk r ty cs)

structure Desc (w0 : World) (H0 : HV) (M : Nat → Prop) (h : List LB) (H : HV) (w : World) : Prop where
  kp : Kp M w0 w
  sub0 : ∀ i o, H0 i = some o → i < w0.heap.size
  sub : ∀ i o, H i = some o → w.heap[i]? = some o
  dom : ∀ i o, H i = some o → H0 i ≠ none ∨ w0.heap.size ≤ i
  keep : ∀ i o, H0 i = some o → ¬ M i → H i = some o
  loc : ∀ k r ty cs, nth h k = some (.mk r ty cs) → w.heap[r]? = some (.cells (cs.map SV.val).toArray ty (0, 0)) ∧ w0.heap.size ≤ r ∧ H r = none
  inj : ∀ k k' r ty cs ty' cs', nth h k = some (.mk r ty cs) → nth h k' = some (.mk r ty' cs') → k = k'
  okc : ∀ k r ty cs, nth h k = some (.mk r ty cs) → ∀ s ∈ cs, okSV h s

structure Fr (n : Nat) (l : Env) (h : List LB) (a : Act) : Prop where
  d : a.defers = []
  sz : n ≤ a.tmps.size
  kn : ∀ t s, look l t = some s → a.tmps.getD t undef = s.val ∧ okSV h s

structure Sat (n : Nat) (D : List LB → HV → World → Prop) (l : Env) (h : List LB) (H : HV) (a : Act) (w : World) : Prop where
  fr : Fr n l h a
  ds : D h H w

/-- a region that draws its order -/
structure VDraw (P : Program) (n : Nat) (D : List LB → HV → World → Prop) (ops : Array Oper) (l : Env) (h : List LB) (H : HV) (K : Env → List LB → HV → Prop) : Prop where
  out : ∀ a w id, Sat n D l h H a w → (Code.region id ops true).wp P (fun e a' w' => e = .normal ∧ ∃ l' h' H', Sat n D l' h' H' a' w' ∧ K l' h' H') a w

abbrev KK := Exit → Env → List LB → HV → Prop

def thenK (next : Env → List LB → HV → Prop) (K : KK) : KK := fun e l h H =>
  match e with
  | .normal => next l h H
  | e => K e l h H

def blockK (id : Nat) (K : KK) : KK := fun e l h H =>
  match e with
  | .exit id' => match Nat.beq id' id with
    | true => K .normal l h H
    | false => K (.exit id') l h H
  | e => K e l h H


def liftK (n : Nat) (D : List LB → HV → World → Prop) (K : KK) : Exit → Act → World → Prop := fun e a w => ∃ l h H, Sat n D l h H a w ∧ K e l h H

/-- a loop -/
structure VLoop (P : Program) (n : Nat) (D : List LB → HV → World → Prop) (c : Code) (l : Env) (h : List LB) (H : HV) (K : KK) : Prop where
  out : ∀ a w, Sat n D l h H a w → (Code.loop c).wp P (liftK n D K) a w

structure VRange (P : Program) (n : Nat) (D : List LB → HV → World → Prop) (f : Operand) (ps : Array Tmp) (asg body : Code) (l : Env) (h : List LB) (H : HV) (K : KK) : Prop where
  out : ∀ a w, Sat n D l h H a w → (Code.rangeFunc f ps asg body).wp P (liftK n D K) a w

def vc (P : Program) (T : Tab) (n : Nat) (B : Nat) (M : Nat → Prop) (D : List LB → HV → World → Prop) : Code → KK → Env → List LB → HV → Prop
  | .skip, K, l, h, H => K .normal l h H
  | .label _, K, l, h, H => K .normal l h H
  | .seq x y, K, l, h, H => vc P T n B M D x (thenK (fun l h H => vc P T n B M D y K l h H) K) l h H
  | .cond c x y, K, l, h, H => match ev l c with
    | some (.v (.bool b)) => vif b (vc P T n B M D x K l h H) (vc P T n B M D y K l h H)
    | _ => False
  | .block id c, K, l, h, H => vc P T n B M D c (blockK id K) l h H
  | .exit id, K, l, h, H => K (.exit id) l h H
  | .ret, K, l, h, H => K .ret l h H
  | .loop c, K, l, h, H => VLoop P n D c l h H K
  | .rangeFunc f ps asg body, K, l, h, H => VRange P n D f ps asg body l h H K
  | .region _ ops draw, K, l, h, H => match draw with
    | false => exOps P T B M D ops (fun l h H => K .normal l h H) ops.toList l h H
    | true => VDraw P n D ops l h H (fun l h H => K .normal l h H)
  | _, _, _, _, _ => False

/-! ### contracts -/

/-- a pure result: nothing that was there turns -/
def RetP (v : Value) (w : World) : Ending → World → Prop := fun e w' => e = .returned v ∧ Kp (fun _ => False) w w'

/-- a result and memory: M may turn, H1 is what is known behind -/
def Ret (H0 : HV) (M : Nat → Prop) (Post : Value → HV → Prop) (w : World) : Ending → World → Prop := fun e w' =>
  ∃ v H1, e = .returned v ∧ Kp M w w' ∧ (∀ i o, H1 i = some o → w'.heap[i]? = some o) ∧ (∀ i o, H1 i = some o → H0 i ≠ none ∨ w.heap.size ≤ i) ∧
    (∀ i o, H0 i = some o → ¬ M i → H1 i = some o) ∧ Post v H1

/-- the results' values -/
def resV (T : Tab) (l : Env) (h : List LB) (H : HV) : ResultVar → (Value → List LB → HV → Prop) → Prop
  | .tmp t, K => match look l t with
    | some s => expo s h H K
    | none => False
  | .cell t ty, K => match look l t with
    | some (.p k r off) => match nth h k with
      | some (.mk _ _ cs) => match lookT T ty with
        | some ti => match ti.k.agg with
          | false => match nth cs off with
            | some s => expo s h H K
            | none => False
          | true => match takeV off ti.sz (cs.map SV.val) with
            | some vs => K (.agg ⟨vs⟩) h H
            | none => False
        | none => False
      | _ => False
    | some (.v (.pointer (some ⟨b, off, none⟩))) => match lookT T ty with
      | some ti => match ti.k.agg with
        | false => ∃ v, RdC H b off v ∧ K v h H
        | true => ∃ vs, RdA H b off ti.sz vs ∧ K (.agg vs) h H
      | none => False
    | _ => False

def resVs (T : Tab) (l : Env) : List ResultVar → List LB → HV → (List Value → List LB → HV → Prop) → Prop
  | [], h, H, K => K [] h H
  | x :: xs, h, H, K => resV T l h H x (fun v h H => resVs T l xs h H (fun vs h H => K (v :: vs) h H))

def finK (T : Tab) (rs : List ResultVar) (Post : Value → HV → Prop) : KK := fun e l h H =>
  match e with
  | .normal => resVs T l rs h H (fun vs _ H => match vs with | [v] => Post v H | vs => Post (.tuple ⟨vs⟩) H)
  | .ret => resVs T l rs h H (fun vs _ H => match vs with | [v] => Post v H | vs => Post (.tuple ⟨vs⟩) H)
  | _ => False

def argsK : Nat → List Value → (Env → Prop) → Prop
  | _, [], K => K []
  | t, v :: vs, K => argsK (t + 1) vs (fun l => K ((t, .v v) :: l))

def args0 : Nat → List Value → Env
  | _, [] => []
  | t, v :: vs => (t, .v v) :: args0 (t + 1) vs

end Go.Eng
