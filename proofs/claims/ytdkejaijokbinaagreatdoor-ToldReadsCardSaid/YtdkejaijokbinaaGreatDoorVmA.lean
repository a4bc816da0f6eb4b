/- A machine that reads Go code as data is laid: shapes, data, effects (parts A to K); no conditions. -/
import Derived.Below
import Derived.Orders
import Derived.KernelRfl
import Derived.Laws.CopyRow
import Derived.Laws.Cells
import Derived.WalkKit
set_option linter.all false

section
namespace Vm
open Go

/-- Shapes of cells. -/
inductive Sh (K : Type) where
  | int (k : IntKind) | bool | str | err | oth | fn | sl (k : K) | arr (k : K) (n : Nat)

def D {K : Type} (Ty : K → Type) : Sh K → Type
  | .int _ => Int
  | .bool => Bool
  | .str => List UInt8
  | .err => Option Int
  | .oth => Value
  | .fn => Nat
  | .sl k => List (Ty k)
  | .arr k _ => List (Ty k)

def Ds {K : Type} (Ty : K → Type) : List (Sh K) → Type
  | [] => Unit
  | s :: ss => D Ty s × Ds Ty ss

/-- What is known of a program's types: the kinds of elements of slices and arrays. -/
structure Sig where
  K : Type
  dec : DecidableEq K
  Ty : K → Type
  sh : K → List (Sh K)
  es : K → Nat
  to : (k : K) → Ty k → Ds Ty (sh k)
  of : (k : K) → Ds Ty (sh k) → Ty k
  toof : ∀ k d, to k (of k d) = d
  errT : TypeId
  /-- Package variables that are never written: the block, and what is known of its cells. -/
  glob : List (Nat × (Array Value → Prop))

variable {S : Sig}

instance : DecidableEq S.K := S.dec

/-- A pure cell: no reference to what may be written. -/
inductive FC (S : Sig) where
  | int (k : IntKind) (n : Int)
  | bool (b : Bool)
  | str (l : List UInt8)
  | err (e : Option Int)
  | oth (v : Value)
  | fn (f : Nat)
  | sl (k : S.K) (L : List (S.Ty k))
  | arr (k : S.K) (n : Nat) (L : List (S.Ty k))

def Sh.width (es : S.K → Nat) : Sh S.K → Nat
  | .arr k n => n * es k
  | _ => 1

def FC.width : FC S → Nat
  | .arr k n _ => n * S.es k
  | _ => 1

def enc1 : (s : Sh S.K) → D S.Ty s → FC S
  | .int k, d => .int k d
  | .bool, d => .bool d
  | .str, d => .str d
  | .err, d => .err d
  | .oth, d => .oth d
  | .fn, d => .fn d
  | .sl k, d => .sl k d
  | .arr k n, d => .arr k n d

def encs : (ss : List (Sh S.K)) → Ds S.Ty ss → List (FC S)
  | [], _ => []
  | s :: ss, d => enc1 s d.1 :: encs ss d.2

def enc (k : S.K) (x : S.Ty k) : List (FC S) := encs (S.sh k) (S.to k x)

def dec1 : (s : Sh S.K) → FC S → Option (D S.Ty s)
  | .int k, .int k' n => if k = k' then some n else none
  | .bool, .bool b => some b
  | .str, .str l => some l
  | .err, .err e => some e
  | .oth, .oth v => some v
  | .fn, .fn f => some f
  | .sl k, .sl k' L => if h : k' = k then some (h ▸ L) else none
  | .arr k n, .arr k' n' L => if h : k' = k then if n' = n then some (h ▸ L) else none else none
  | _, _ => none

def decs : (ss : List (Sh S.K)) → List (FC S) → Option (Ds S.Ty ss)
  | [], [] => some ()
  | s :: ss, c :: cs => match dec1 s c with
    | some d => match decs ss cs with
      | some ds => some (d, ds)
      | none => none
    | none => none
  | _, _ => none

theorem dec1_sound : ∀ (s : Sh S.K) (c : FC S) (x : D S.Ty s), dec1 s c = some x → enc1 s x = c := by
  intro s c x h
  cases s <;> cases c <;> simp only [dec1, reduceCtorEq] at h
  case int.int k k' n =>
    split at h
    · rename_i e; subst e; obtain rfl := Option.some.inj h; rfl
    · simp at h
  case bool.bool => obtain rfl := Option.some.inj h; rfl
  case str.str => obtain rfl := Option.some.inj h; rfl
  case err.err => obtain rfl := Option.some.inj h; rfl
  case oth.oth => obtain rfl := Option.some.inj h; rfl
  case fn.fn => obtain rfl := Option.some.inj h; rfl
  case sl.sl k k' L =>
    split at h
    · rename_i e; subst e; obtain rfl := Option.some.inj h; rfl
    · simp at h
  case arr.arr k n k' n' L =>
    split at h
    · rename_i e; subst e
      split at h
      · rename_i e; subst e; obtain rfl := Option.some.inj h; rfl
      · simp at h
    · simp at h

theorem decs_sound : ∀ (ss : List (Sh S.K)) (cs : List (FC S)) (d : Ds S.Ty ss), decs ss cs = some d → encs ss d = cs
  | [], [], _, _ => rfl
  | [], _ :: _, _, h => by simp [decs] at h
  | _ :: _, [], _, h => by simp [decs] at h
  | s :: ss, c :: cs, d, h => by
    simp only [decs] at h
    cases h1 : dec1 s c with
    | none => simp [h1] at h
    | some x =>
      rw [h1] at h
      cases h2 : decs ss cs with
      | none => simp [h2] at h
      | some y =>
        simp only [h2] at h
        obtain rfl : (x, y) = d := Option.some.inj h
        have ih := decs_sound ss cs y h2
        have i1 := dec1_sound s c x h1
        show enc1 s x :: encs ss y = c :: cs
        rw [ih, i1]

def decE (k : S.K) (cs : List (FC S)) : Option (S.Ty k) := (decs (S.sh k) cs).map (S.of k)

theorem decE_sound {k : S.K} {cs : List (FC S)} {x : S.Ty k} (h : decE k cs = some x) : enc k x = cs := by
  unfold decE at h
  cases h1 : decs (S.sh k) cs with
  | none => simp [h1] at h
  | some d =>
    simp only [h1, Option.map_some, Option.some.injEq] at h
    subst h
    unfold enc
    rw [S.toof]
    exact decs_sound _ _ _ h1

/-! The relation between pure cells and a world. `M`: the blocks that may be written. -/

def cellsAt (w : World) (b off : Nat) (vs : List Value) : Prop :=
  ∀ j v, vs[j]? = some v → w.cell? ⟨b, off + j, none⟩ = some v

def errV (S : Sig) : Option Int → Value
  | none => .nilIface
  | some n => .iface S.errT (.int .i64 n)

/-- The number that stands for an error of another type. -/
def foreign : Int := -1267650600228229401496703205376

mutual
inductive RelF (w : World) (M : Nat → Prop) : FC S → List Value → Prop
  | int (k n) : RelF w M (.int k n) [.int k n]
  | bool (b) : RelF w M (.bool b) [.bool b]
  | str (l) : RelF w M (.str l) [.string ⟨l.toArray⟩]
  | err (e) : RelF w M (.err e) [errV S e]
  | erro (t v) : RelF w M (.err (some foreign)) [.iface t v]
  | oth (v) : v.oneCell' = true → RelF w M (.oth v) [v]
  | fn (f : Nat) : RelF w M (.fn f) [.func (.func f) #[] #[]]
  | sl0 (k a c) : RelF w M (.sl k []) [.slice a 0 c]
  | sl (k L b off c vs) : ¬ M b → b < w.heap.size → L.length ≤ c → cellsAt w b off vs → RelEs w M k L vs → RelF w M (.sl k L) [.slice (some ⟨b, off, none⟩) L.length c]
  | arr (k n L vs) : L.length = n → RelEs w M k L vs → RelF w M (.arr k n L) vs
inductive RelEs (w : World) (M : Nat → Prop) : (k : S.K) → List (S.Ty k) → List Value → Prop
  | nil (k) : RelEs w M k [] []
  | cons (k x L us vs) : us.length = S.es k → RelFs w M (enc k x) us → RelEs w M k L vs → RelEs w M k (x :: L) (us ++ vs)
inductive RelFs (w : World) (M : Nat → Prop) : List (FC S) → List Value → Prop
  | nil : RelFs w M [] []
  | cons (c cs us vs) : us.length = c.width → RelF w M c us → RelFs w M cs vs → RelFs w M (c :: cs) (us ++ vs)
end

/-- What may have happened between two worlds: only blocks of `M`, or new ones, were written. -/
structure Chg (M : Nat → Prop) (w w' : World) : Prop where
  os : w'.os = w.os
  tape : w'.tape = w.tape
  output : w'.output = w.output
  size : w.heap.size ≤ w'.heap.size
  block : ∀ b, b < w.heap.size → ¬ M b → w'.heap[b]? = w.heap[b]?

theorem Chg.refl (M : Nat → Prop) (w : World) : Chg M w w := ⟨rfl, rfl, rfl, Nat.le_refl _, fun _ _ _ => rfl⟩

theorem Chg.trans {M M' : Nat → Prop} {a b c : World} (h : Chg M a b) (k : Chg M' b c) (hM : ∀ x, M' x → M x ∨ a.heap.size ≤ x) : Chg M a c :=
  ⟨k.os.trans h.os, k.tape.trans h.tape, k.output.trans h.output, Nat.le_trans h.size k.size, fun x hx hm =>
    (k.block x (Nat.lt_of_lt_of_le hx h.size) (fun h' => (hM x h').elim hm (fun h'' => by omega))).trans (h.block x hx hm)⟩

theorem Chg.cellsAt {M : Nat → Prop} {w w' : World} (h : Chg M w w') {b off : Nat} {vs : List Value} (hb : b < w.heap.size) (hm : ¬ M b) (hc : Vm.cellsAt w b off vs) : Vm.cellsAt w' b off vs := by
  intro j v hj
  rw [World.cell?_of_block (w := w) (h.block b hb hm)]
  exact hc j v hj

section
variable {w w' : World} {M M' : Nat → Prop} (h : Chg M w w') (hM : ∀ x, M' x → M x ∨ w.heap.size ≤ x)
include h hM
mutual
theorem RelF.up : {c : FC S} → {vs : List Value} → RelF w M c vs → RelF w' M' c vs
  | _, _, .int k n => .int k n
  | _, _, .bool b => .bool b
  | _, _, .str l => .str l
  | _, _, .err e => .err e
  | _, _, .erro t v => .erro t v
  | _, _, .oth v h1 => .oth v h1
  | _, _, .fn f => .fn f
  | _, _, .sl0 k a c => .sl0 k a c
  | _, _, .sl k L b off c vs h1 h2 h3 h4 h5 =>
    .sl k L b off c vs (fun h' => (hM b h').elim h1 (fun h'' => by omega)) (Nat.lt_of_lt_of_le h2 h.size) h3 (h.cellsAt h2 h1 h4) (RelEs.up h5)
  | _, _, .arr k n L vs h1 h2 => .arr k n L vs h1 (RelEs.up h2)
theorem RelEs.up : {k : S.K} → {L : List (S.Ty k)} → {vs : List Value} → RelEs w M k L vs → RelEs w' M' k L vs
  | _, _, _, .nil k => .nil k
  | _, _, _, .cons k x L us vs h1 h2 h3 => .cons k x L us vs h1 (RelFs.up h2) (RelEs.up h3)
theorem RelFs.up : {cs : List (FC S)} → {vs : List Value} → RelFs w M cs vs → RelFs w' M' cs vs
  | _, _, .nil => .nil
  | _, _, .cons c cs us vs h1 h2 h3 => .cons c cs us vs h1 (RelF.up h2) (RelFs.up h3)
end
end

end Vm
end

section
namespace Vm
open Go
variable {S : Sig}

inductive Cell (S : Sig) where
  | f (c : FC S)
  | ptr (b off : Nat)
  | eptr (b ver : Nat) (k : S.K) (i sub : Nat)
  | aptr (b off : Nat) (k : S.K) (i : Nat)
  | asl (b off : Nat) (k : S.K) (lo hi : Nat)
  | fptr (cs : List (FC S))
  | live (b ver : Nat)
  | nilsl
  | clo (fn : FuncId) (caps : List Nat)

def Cell.width : Cell S → Nat
  | .f c => c.width
  | _ => 1

def widthsC : List (Cell S) → Nat
  | [] => 0
  | c :: cs => c.width + widthsC cs

inductive PE (S : Sig) where
  | sc (c : Cell S)
  | ag (cs : List (Cell S))

inductive PV (S : Sig) where
  | e (p : PE S)
  | tu (ps : List (PE S))
  | undef

inductive Blk (S : Sig) where
  | var (cs : List (Cell S)) (fz : Bool)
  | arr (k : S.K) (L : List (S.Ty k)) (ver : Nat) (fz : Bool)

structure St (S : Sig) where
  tm : List (Nat × PV S)
  hp : List (Nat × Blk S)
  nx : Nat

def lk {α : Type} (n : Nat) : List (Nat × α) → Option α
  | [] => none
  | (m, a) :: l => bif Nat.beq m n then some a else lk n l

/-- What a type is laid out as. -/
inductive Lay (S : Sig) where
  | sc (s : Sh S.K)
  | st (shs : List (Sh S.K)) (offs : List Nat) (width : Nat)
  | ar (k : S.K) (n : Nat)
  | sl (k : S.K)
  | none

abbrev Tab (S : Sig) := List (TypeId × Lay S)

def Tab.at (T : Tab S) (t : TypeId) : Lay S := (lk t T).getD .none

def Lay.width : Lay S → Nat
  | .sc _ => 1
  | .sl _ => 1
  | .st _ _ w => w
  | .ar k n => n * S.es k
  | .none => 0

def Lay.agg : Lay S → Bool
  | .st .. => true
  | .ar .. => true
  | _ => false

def Lay.shs : Lay S → List (Sh S.K)
  | .sc s => [s]
  | .sl k => [.sl k]
  | .st shs _ _ => shs
  | .ar k n => [.arr k n]
  | .none => []

class Zeros (S : Sig) where
  zero : (k : S.K) → S.Ty k

def zero1 [Zeros S] : Sh S.K → Cell S
  | .int k => .f (.int k 0)
  | .bool => .f (.bool false)
  | .str => .f (.str [])
  | .err => .f (.err none)
  | .oth => .f (.oth (.pointer none))
  | .fn => .f (.oth .nilFunc)
  | .sl _ => .nilsl
  | .arr k n => .f (.arr k n (List.replicate n (Zeros.zero k)))

/-- One cell, of one value. -/
def Cell.isSc : Cell S → Bool
  | .f (.arr ..) => false
  | _ => true

def mkPE (agg : Bool) (cs : List (Cell S)) : Option (PE S) :=
  match agg, cs with
  | true, cs => some (.ag cs)
  | false, [c] => bif c.isSc then some (.sc c) else none
  | false, _ => none

def PE.cells : PE S → List (Cell S)
  | .sc c => [c]
  | .ag cs => cs

def constPV : Value → Option (PV S)
  | .int k n => some (.e (.sc (.f (.int k n))))
  | .bool b => some (.e (.sc (.f (.bool b))))
  | .string s => some (.e (.sc (.f (.str s.data.toList))))
  | .nilIface => some (.e (.sc (.f (.err none))))
  | .slice none 0 0 => some (.e (.sc .nilsl))
  | .pointer none => some (.e (.sc (.f (.oth (.pointer none)))))
  | .nilFunc => some (.e (.sc (.f (.oth .nilFunc))))
  | _ => none

def ev (st : St S) : Operand → Option (PV S)
  | .tmp t => lk t st.tm
  | .const v => constPV v
  | .func f => some (.e (.sc (.clo f [])))
  | .global _ => none

def seek : List (Cell S) → Nat → Option (List (Cell S))
  | [], n => bif Nat.beq n 0 then some [] else none
  | c :: cs, n => bif Nat.beq n 0 then some (c :: cs) else bif Nat.ble c.width n then seek cs (n - c.width) else none

def takeW : List (Cell S) → Nat → Option (List (Cell S))
  | [], n => bif Nat.beq n 0 then some [] else none
  | c :: cs, n => bif Nat.beq n 0 then some [] else bif Nat.ble c.width n then
      (match takeW cs (n - c.width) with | some l => some (c :: l) | none => none) else none

def putW : List (Cell S) → Nat → List (Cell S) → Nat → Option (List (Cell S))
  | [], off, new, n => bif Nat.beq off 0 then (bif Nat.beq n 0 then some new else none) else none
  | c :: cs, off, new, n => bif Nat.beq off 0 then (match seek (c :: cs) n with | some l => some (new ++ l) | none => none)
      else bif Nat.ble c.width off then (match putW cs (off - c.width) new n with | some l => some (c :: l) | none => none) else none

/-- A cell as data of a shape: what is alive is read as it is now. -/
def dec1C (hp : List (Nat × Blk S)) : (s : Sh S.K) → Cell S → Option (D S.Ty s)
  | .sl _, .nilsl => some []
  | .sl k, .live b v => match lk b hp with
    | some (.arr k' L v' _) => bif Nat.beq v v' then (if h : k' = k then some (h ▸ L) else none) else none
    | _ => none
  | .sl k, .asl b off k' lo hi => match lk b hp with
    | some (.var cs _) => match seek cs off with
      | some (.f (.arr k2 n2 L) :: _) => if h : k2 = k then (if k' = k then (bif Nat.ble hi n2 then some (h ▸ ((L.take hi).drop lo)) else none) else none) else none
      | _ => none
    | _ => none
  | .fn, .clo f [] => some f
  | s, .f c => dec1 s c
  | _, _ => none

def decsC (hp : List (Nat × Blk S)) : (ss : List (Sh S.K)) → List (Cell S) → Option (Ds S.Ty ss)
  | [], [] => some ()
  | s :: ss, c :: cs => match dec1C hp s c with
    | some d => match decsC hp ss cs with
      | some ds => some (d, ds)
      | none => none
    | none => none
  | _, _ => none

/-- The live blocks that cells lead to. -/
def lives : List (Cell S) → List Nat
  | [] => []
  | .live b _ :: cs => b :: lives cs
  | .asl b .. :: cs => b :: lives cs
  | _ :: cs => lives cs

def frz (hp : List (Nat × Blk S)) : List Nat → List (Nat × Blk S)
  | [] => hp
  | b :: bs => match lk b hp with
    | some (.arr k L v _) => frz ((b, .arr k L v true) :: hp) bs
    | some (.var cs _) => frz ((b, .var cs true) :: hp) bs
    | none => frz hp bs

structure Eff (S : Sig) where
  val : PV S
  rd : List Nat
  wr : List Nat
  hp : List (Nat × Blk S)
  nx : Nat

variable {R : Type}

abbrev CallOrc (S : Sig) (R : Type) := List (PV S) → St S → (Eff S → Option R) → Option R
abbrev LoopOrc (S : Sig) (R : Type) := St S → (Exit → St S → Option R) → Option R

structure Orc (S : Sig) (R : Type) where
  call : List (Nat × CallOrc S R)
  loop : List (Nat × LoopOrc S R)

def binInt (op : BinOp) (k : IntKind) (a b : Int) (K : FC S → Option R) : Option R :=
  match op with
  | .add => K (.int k (k.wrap (a + b)))
  | .sub => K (.int k (k.wrap (a - b)))
  | .mul => K (.int k (k.wrap (a * b)))
  | .quo => bif decide (b = 0) then none else K (.int k (k.wrap (a.tdiv b)))
  | .rem => bif decide (b = 0) then none else K (.int k (a.tmod b))
  | .and => K (.int k (k.wrap (BitVec.ofInt k.bits a &&& BitVec.ofInt k.bits b).toNat))
  | .or => K (.int k (k.wrap (BitVec.ofInt k.bits a ||| BitVec.ofInt k.bits b).toNat))
  | .xor => K (.int k (k.wrap (BitVec.ofInt k.bits a ^^^ BitVec.ofInt k.bits b).toNat))
  | .andNot => K (.int k (k.wrap (BitVec.ofInt k.bits a &&& ~~~ BitVec.ofInt k.bits b).toNat))
  | .eql => K (.bool (a == b))
  | .neq => K (.bool (a != b))
  | .lss => K (.bool (decide (a < b)))
  | .leq => K (.bool (decide (a ≤ b)))
  | .gtr => K (.bool (decide (a > b)))
  | .geq => K (.bool (decide (a ≥ b)))
  | _ => none

def shiftInt (op : BinOp) (k : IntKind) (a b : Int) (K : FC S → Option R) : Option R :=
  bif decide (b < 0) then none else
  match op with
  | .shl => K (.int k (k.wrap (a * 2 ^ (min b.toNat k.bits))))
  | .shr => K (.int k (a.fdiv (2 ^ (min b.toNat k.bits))))
  | _ => none

def binStr (op : BinOp) (a b : List UInt8) (K : FC S → Option R) : Option R :=
  match op with
  | .add => bif Nat.ble (a.length + b.length) 9223372036854775807 then K (.str (a ++ b)) else none
  | .eql => K (.bool (a == b))
  | .neq => K (.bool (!(a == b)))
  | .lss => K (.bool (Op.bytesLess a b))
  | .leq => K (.bool (Op.bytesLess a b || a == b))
  | .gtr => K (.bool (!(Op.bytesLess a b || a == b)))
  | .geq => K (.bool (!(Op.bytesLess a b)))
  | _ => none

/-- '==' of the cells of a struct. -/
abbrev EqF (S : Sig) := List (Cell S) → List (Cell S) → Option Bool

def isConst : Operand → Bool
  | .const _ => true
  | _ => false

def binK (q : Option (EqF S)) (l : Lay S) (op : BinOp) (lit : Bool) (x y : PV S) (K : PV S → Option R) : Option R :=
  let k1 : FC S → Option R := fun c => K (.e (.sc (.f c)))
  match x, y with
  | .e (.sc (.f (.int k a))), .e (.sc (.f (.int k' b))) =>
    match op with
    | .shl => shiftInt op k a b k1
    | .shr => shiftInt op k a b k1
    | _ => if k = k' then binInt op k a b k1 else none
  | .e (.sc (.f (.str a))), .e (.sc (.f (.str b))) => binStr op a b k1
  | .e (.sc (.f (.bool a))), .e (.sc (.f (.bool b))) => match l, op with
    | .sc .bool, .eql => k1 (.bool (a == b))
    | .sc .bool, .neq => k1 (.bool (!(a == b)))
    | _, _ => none
  | .e (.sc (.f (.err a))), .e (.sc (.f (.err none))) => match l, op, lit with
    | .sc .err, .eql, true => k1 (.bool a.isNone)
    | .sc .err, .neq, true => k1 (.bool (!a.isNone))
    | _, _, _ => none
  | .e (.ag xs), .e (.ag ys) => match q with
    | some q => (match q xs ys with
      | some b => (match op with
        | .eql => k1 (.bool b)
        | .neq => k1 (.bool (!b))
        | _ => none)
      | none => none)
    | none => none
  | _, _ => none

def unK (op : UnOp) (x : PV S) (K : PV S → Option R) : Option R :=
  match op, x with
  | .not, .e (.sc (.f (.bool b))) => K (.e (.sc (.f (.bool (!b)))))
  | .neg, .e (.sc (.f (.int k n))) => K (.e (.sc (.f (.int k (k.wrap (0 - n))))))
  | .xor, .e (.sc (.f (.int k n))) => K (.e (.sc (.f (.int k (k.wrap (BitVec.ofInt k.bits (if k.signed then -1 else k.max) ^^^ BitVec.ofInt k.bits n).toNat)))))
  | _, _ => none

/-- Cells out of parts: each at its place among the shapes' widths. -/
def fillK : List (Cell S) → List (Nat × PE S) → (Nat → Option (Nat × Nat)) → Option (List (Cell S))
  | cs, [], _ => some cs
  | cs, (i, p) :: ps, place => match place i with
    | some (off, w) => bif Nat.beq (widthsC p.cells) w then (match putW cs off p.cells w with
      | some cs' => fillK cs' ps place
      | none => none) else none
    | none => none

def evs (st : St S) : List Operand → Option (List (PV S))
  | [] => some []
  | x :: xs => match ev st x with
    | some p => match evs st xs with
      | some ps => some (p :: ps)
      | none => none
    | none => none

def evParts (st : St S) : List (Nat × Operand) → Option (List (Nat × PE S))
  | [] => some []
  | (i, x) :: xs => match ev st x with
    | some (.e p) => match evParts st xs with
      | some ps => some ((i, p) :: ps)
      | none => none
    | _ => none

def widths (l : List (Sh S.K)) : Nat := (l.map (Sh.width S.es)).foldr (· + ·) 0

/-- The place of a struct's field: where it begins, how many cells it has. -/
def fieldAt (offs : List Nat) (w i : Nat) : Option (Nat × Nat) :=
  match offs[i]? with
  | some a => match offs[i + 1]? with
    | some b => some (a, b - a)
    | none => some (a, w - a)
  | none => none

class Prog (S : Sig) extends Zeros S where
  eqT : List (TypeId × EqF S)
  tab : Tab S
  /-- of some structs: their fields' types -/
  fts : List (TypeId × List TypeId)
  /-- the kinds whose elements are bytes -/
  byte : S.K
  toB : S.Ty byte → Int
  ofB : Int → S.Ty byte
  /-- is an element a struct, or an array? -/
  aggK : S.K → Bool
  /-- how many elements of a kind may be appended to -/
  lim : S.K → Nat

open Prog

/-- The elements that are appended. -/
def srcOf [Prog S] (hp : List (Nat × Blk S)) (k : S.K) : Cell S → Option (List (S.Ty k))
  | .f (.str l) => if h : byte = k then some (h ▸ (l.map fun b => ofB (b.toNat : Int))) else none
  | c => dec1C hp (.sl k) c

def appendK [Prog S] (st : St S) (k : S.K) (s x : Cell S) (K : Eff S → Option R) : Option R :=
  match srcOf st.hp k x with
  | none => none
  | some ys =>
    match s with
    | .nilsl => bif Nat.ble ys.length (lim k) then
        K ⟨.e (.sc (.live st.nx 0)), lives [x], [], (st.nx, .arr k ys 0 false) :: st.hp, st.nx + 1⟩ else none
    | .live b v => match lk b st.hp with
      | some (.arr k' L v' false) => if h : k' = k then (bif Nat.beq v v' then
          (bif Nat.ble (L.length + ys.length) (lim k) then
            K ⟨.e (.sc (.live b (v + 1))), b :: lives [x], [b], (b, .arr k ((h ▸ L) ++ ys) (v + 1) false) :: st.hp, st.nx⟩ else none) else none) else none
      | _ => none
    | _ => none

def lenC (hp : List (Nat × Blk S)) (l : Lay S) (c : Cell S) : Option (Int × List Nat) :=
  match l, c with
  | .sc .str, .f (.str l) => some ((l.length : Int), [])
  | .sl _, .f (.sl _ L) => some ((L.length : Int), [])
  | .sl _, .nilsl => some (0, [])
  | .sl _, .asl _ _ _ lo hi => some (((hi - lo : Nat) : Int), [])
  | .sl _, .live b v => match lk b hp with
    | some (.arr _ L v' _) => bif Nat.beq v v' then some ((L.length : Int), [b]) else none
    | _ => none
  | _, _ => none

def intPV (n : Int) : PV S := .e (.sc (.f (.int .i64 n)))

def ptrsOf : List (PV S) → Option (List Nat)
  | [] => some []
  | .e (.sc (.ptr b 0)) :: ps => match ptrsOf ps with
    | some l => some (b :: l)
    | none => none
  | _ => none

def loadK [Prog S] (st : St S) (l : Lay S) (a : Cell S) (K : PV S → List Nat → Option R) : Option R :=
  match a with
  | .ptr b off => match lk b st.hp with
    | some (.var cs _) => match seek cs off with
      | some r => match takeW r l.width with
        | some r => match mkPE l.agg r with
          | some p => K (.e p) [b]
          | none => none
        | none => none
      | none => none
    | _ => none
  | .fptr cs => match takeW (cs.map .f) l.width with
    | some r => match mkPE l.agg r with
      | some p => K (.e p) []
      | none => none
    | none => none
  | .eptr b v k i sub => match lk b st.hp with
    | some (.arr k' L v' _) => if h : k' = k then (bif Nat.beq v v' then
        (match L[i]? with
         | some x => match seek ((enc k' x).map .f) sub with
           | some r => match takeW r l.width with
             | some r => match mkPE l.agg r with
               | some p => K (.e p) [b]
               | none => none
             | none => none
           | none => none
         | none => none) else none) else none
    | _ => none
  | .aptr b off k i => match lk b st.hp with
    | some (.var cs _) => match seek cs off with
      | some (.f (.arr k' _ L) :: _) => if k' = k then (match L[i]? with
         | some x => match takeW ((enc k' x).map .f) l.width with
           | some r => match mkPE l.agg r with
             | some p => K (.e p) [b]
             | none => none
           | none => none
         | none => none) else none
      | _ => none
    | _ => none
  | _ => none

def has (b : Nat) : List Nat → Bool
  | [] => false
  | c :: cs => Nat.beq b c || has b cs

def storeK [Prog S] (st : St S) (l : Lay S) (a : Cell S) (v : PE S) (K : Eff S → Option R) : Option R :=
  bif !(Nat.beq (widthsC v.cells) l.width) || Nat.beq l.width 0 then none else
  match a with
  | .ptr b off => match lk b st.hp with
    | some (.var cs false) => match putW cs off v.cells l.width with
      | some cs' => K ⟨.undef, [b], [b], (b, .var cs' false) :: st.hp, st.nx⟩
      | none => none
    | _ => none
  | .eptr b ver k i sub => match lk b st.hp with
    | some (.arr k' L ver' false) => if k' = k then (bif Nat.beq ver ver' && !(has b (lives v.cells)) then
        (match L[i]? with
         | some x => match putW ((enc k' x).map .f) sub v.cells l.width with
           | some cs' => match decsC st.hp (S.sh k') cs' with
             | some d => K ⟨.undef, b :: lives v.cells, b :: lives v.cells, (b, .arr k' (L.set i (S.of k' d)) ver' false) :: frz st.hp (lives v.cells), st.nx⟩
             | none => none
           | none => none
         | none => none) else none) else none
    | _ => none
  | .aptr b off k i => match lk b st.hp with
    | some (.var cs false) => match seek cs off with
      | some (.f (.arr k' n L) :: _) => if k' = k then (bif Nat.beq l.width (S.es k') && !(has b (lives v.cells)) then (match L[i]? with | none => none | some _ => match decsC st.hp (S.sh k') v.cells with
         | some d => match putW cs off [.f (.arr k' n (L.set i (S.of k' d)))] (n * S.es k') with
           | some cs' => K ⟨.undef, b :: lives v.cells, b :: lives v.cells, (b, .var cs' false) :: frz st.hp (lives v.cells), st.nx⟩
           | none => none
         | none => none) else none) else none
      | _ => none
    | _ => none
  | _ => none

def numE : PV S → Option Int
  | .e (.sc (.f (.int _ n))) => some n
  | _ => none

def indexK [Prog S] (l : Lay S) (st : St S) (x : Cell S) (i : Int) (K : Cell S → List Nat → Option R) : Option R :=
  bif decide (0 ≤ i) then
  (match l, x with
  | .sl k', .f (.sl k L) => if k' = k then (match L[i.toNat]? with
    | some e => K (.fptr (enc k e)) []
    | none => none) else none
  | .sl k', .live b v => match lk b st.hp with
    | some (.arr k L v' _) => if k' = k then (bif Nat.beq v v' then (bif decide (i < (L.length : Int)) then K (.eptr b v k i.toNat 0) [b] else none) else none) else none
    | _ => none
  | .ar k n, .ptr b off => match lk b st.hp with
    | some (.var cs _) => match seek cs off with
      | some (.f (.arr k' n' _) :: _) => if k' = k then (bif Nat.beq n' n then (bif decide (i < (n : Int)) then K (.aptr b off k i.toNat) [b] else none) else none) else none
      | _ => none
    | _ => none
  | .ar k n, .fptr (.arr k' n' L :: _) => if k' = k then (bif Nat.beq n' n then (match L[i.toNat]? with
    | some e => K (.fptr (enc k' e)) []
    | none => none) else none) else none
  | _, _ => none) else none

def bnd (v : Option (PV S)) (d : Int) : Option Int :=
  match v with
  | none => some d
  | some v => numE v

/-- Is it a slice of nothing? -/
def nothing (hi lo mx : Option Int) : Bool :=
  (match mx with | some 0 => true | _ => false) && (match hi with | some 0 => true | _ => false) && (match lo with | none => true | _ => false)

/-- Within the bounds? -/
def within (a b n : Int) : Bool := decide (0 ≤ a) && decide (a ≤ b) && decide (b ≤ n)

def cut {α : Type} (s : List α) (a b : Int) : List α := (s.take b.toNat).drop a.toNat

def sliceK [Prog S] (l : Lay S) (st : St S) (x : Cell S) (lo hi mx : Option Int) (K : Eff S → Option R) : Option R :=
  match l with
  | .sl k' => bif nothing hi lo mx then
      (match x with
      | .f (.sl ..) => K ⟨.e (.sc .nilsl), [], [], st.hp, st.nx⟩
      | .live r v => (match lk r st.hp with
        | some (.arr _ _ v' _) => bif Nat.beq v v' then K ⟨.e (.sc .nilsl), [r], [], st.hp, st.nx⟩ else none
        | _ => none)
      | .nilsl => K ⟨.e (.sc .nilsl), [], [], st.hp, st.nx⟩
      | _ => none)
    else (match mx with
      | some _ => none
      | none => match x with
        | .f (.sl k s) => if k = k' then (bif within (lo.getD 0) (hi.getD (s.length : Int)) s.length then
            K ⟨.e (.sc (.f (.sl k (cut s (lo.getD 0) (hi.getD (s.length : Int)))))), [], [], st.hp, st.nx⟩ else none) else none
        | .nilsl => bif within (lo.getD 0) (hi.getD 0) 0 then K ⟨.e (.sc .nilsl), [], [], st.hp, st.nx⟩ else none
        | .live r v => (match lk r st.hp with
          | some (.arr k s v' z) => if k = k' then (bif Nat.beq v v' then (bif within (lo.getD 0) (hi.getD (s.length : Int)) s.length then
              K ⟨.e (.sc (.f (.sl k (cut s (lo.getD 0) (hi.getD (s.length : Int)))))), [r], [r], (r, .arr k s v' true) :: st.hp, st.nx⟩ else none) else none) else none
          | _ => none)
        | _ => none)
  | .sc .str => (match mx, x with
    | none, .f (.str s) => bif within (lo.getD 0) (hi.getD (s.length : Int)) s.length then
        K ⟨.e (.sc (.f (.str (cut s (lo.getD 0) (hi.getD (s.length : Int)))))), [], [], st.hp, st.nx⟩ else none
    | _, _ => none)
  | .ar k n => (match mx, x with
    | none, .ptr b off => (match lk b st.hp with
      | some (.var cs _) => (match seek cs off with
        | some (.f (.arr k' n' _) :: _) => if k' = k then (bif Nat.beq n' n && within (lo.getD 0) (hi.getD (n : Int)) n then
            K ⟨.e (.sc (.asl b off k (lo.getD 0).toNat (hi.getD (n : Int)).toNat)), [b], [], st.hp, st.nx⟩ else none) else none
        | _ => none)
      | _ => none)
    | _, _ => none)
  | _ => none

/-- A value as elements of a kind. -/
def elemsOf (hp : List (Nat × Blk S)) (k : S.K) : List (Nat × PE S) → Nat → Option (List (S.Ty k))
  | [], _ => some []
  | (i, p) :: ps, j => bif Nat.beq i j && Nat.beq (widthsC p.cells) (S.es k) then
      (match decsC hp (S.sh k) p.cells with
       | some d => match elemsOf hp k ps (j + 1) with
         | some l => some (S.of k d :: l)
         | none => none
       | none => none) else none

def livesOf : List (Nat × PE S) → List Nat
  | [] => []
  | (_, p) :: ps => lives p.cells ++ livesOf ps

/-- A bound of a slice. -/
def numK (st : St S) (o : Option Operand) (k : Option Int → Option R) : Option R := match o with
  | none => k none
  | some o => match ev st o with
    | some (.e (.sc (.f (.int .i64 n)))) => k (some n)
    | _ => none

def opK [Prog S] (O : Orc S R) (st : St S) (op : Op) (ty : TypeId) (K : Eff S → Option R) : Option R :=
  let T : Tab S := tab
  let k0 (p : PV S) : Option R := K ⟨p, [], [], st.hp, st.nx⟩
  match op with
  | .move x => match ev st x with | some p => k0 p | none => none
  | .assign x => match ev st x with | some p => k0 p | none => none
  | .pick c a b => match ev st c with
    | some (.e (.sc (.f (.bool t)))) => (match t with
      | true => match ev st a with | some p => k0 p | none => none
      | false => match ev st b with | some p => k0 p | none => none)
    | _ => none
  | .alloc t => match T.at t with
    | .none => none
    | l => K ⟨.e (.sc (.ptr st.nx 0)), [], [], (st.nx, .var (l.shs.map zero1) false) :: st.hp, st.nx + 1⟩
  | .box _ x => match ev st x with
    | some (.e p) => K ⟨.e (.sc (.ptr st.nx 0)), [], [], (st.nx, .var p.cells false) :: st.hp, st.nx + 1⟩
    | _ => none
  | .build t ps => match evParts st ps.toList with
    | some ps => match T.at t with
      | .st shs offs w => match fillK (shs.map zero1) ps (fieldAt offs w) with
        | some cs => k0 (.e (.ag cs))
        | none => none
      | .ar k n => bif Nat.beq ps.length n then (match elemsOf st.hp k ps 0 with
          | some L => K ⟨.e (.ag [.f (.arr k n L)]), livesOf ps, livesOf ps, frz st.hp (livesOf ps), st.nx⟩
          | none => none) else (match ps with
          | [] => k0 (.e (.ag [zero1 (.arr k n)]))
          | _ => none)
      | _ => none
    | none => none
  | .buildSlice t n ps => match evParts st ps.toList with
    | some ps => match T.at t with
      | .sl k => bif Nat.beq ps.length n && Nat.ble (n * S.es k) 16777216 then (match elemsOf st.hp k ps 0 with
          | some L => K ⟨.e (.sc (.live st.nx 0)), livesOf ps, livesOf ps, (st.nx, .arr k L 0 false) :: frz st.hp (livesOf ps), st.nx + 1⟩
          | none => none) else none
      | _ => none
    | none => none
  | .load t x => match ev st x with
    | some (.e (.sc a)) => loadK st (T.at t) a fun p rd => K ⟨p, rd, [], st.hp, st.nx⟩
    | _ => none
  | .store t x y => match ev st x, ev st y with
    | some (.e (.sc a)), some (.e v) => storeK st (T.at t) a v K
    | _, _ => none
  | .nilCheck x => match ev st x with
    | some (.e (.sc (.ptr b o))) => k0 (.e (.sc (.ptr b o)))
    | some (.e (.sc (.eptr b v k i s))) => k0 (.e (.sc (.eptr b v k i s)))
    | some (.e (.sc (.fptr cs))) => k0 (.e (.sc (.fptr cs)))
    | some (.e (.sc (.clo f cs))) => k0 (.e (.sc (.clo f cs)))
    | _ => none
  | .binOp op xt x y _ => match ev st x, ev st y with
    | some a, some b => binK (lk xt eqT) (T.at xt) op (isConst y) a b k0
    | _, _ => none
  | .unOp op _ x => match ev st x with
    | some a => unK op a k0
    | none => none
  | .convert s t x => match T.at s with
    | .none => none
    | .sc _ => (match ev st x, T.at t with
      | some (.e (.sc (.f (.int _ n)))), .sc (.int k) => k0 (.e (.sc (.f (.int k (k.wrap n)))))
      | some (.e (.sc (.f (.str l)))), .sc .str => k0 (.e (.sc (.f (.str l))))
      | some (.e (.sc (.f (.str l)))), .sl k => if h : byte = k then
          k0 (.e (.sc (.f (.sl k (h ▸ (l.map fun b => ofB (b.toNat : Int))))))) else none
      | _, _ => none)
    | .sl k => if byte = k then (match ev st x, T.at t with
      | some (.e (.sc c)), .sc .str => (match dec1C st.hp (.sl (byte : S.K)) c with
        | some L => K ⟨.e (.sc (.f (.str (L.map fun x => UInt8.ofNat (toB x).toNat)))), lives [c], [], st.hp, st.nx⟩
        | none => none)
      | _, _ => none) else none
    | _ => none
  | .makeInterface t x => match ev st x with
    | some (.e (.sc (.f (.int .i64 n)))) => bif Nat.beq t S.errT then k0 (.e (.sc (.f (.err (some n))))) else none
    | _ => none
  | .makeFunc (.func f) first caps => match first.toList, evs st caps.toList with
    | [], some ps => (match ptrsOf ps with
      | some bs => k0 (.e (.sc (.clo f bs)))
      | none => none)
    | _, _ => none
  | .makeSlice t n c => match T.at t, ev st n, ev st c with
    | .sl k, some (.e (.sc (.f (.int .i64 n)))), some (.e (.sc (.f (.int .i64 c)))) =>
      bif decide (0 ≤ n) then (bif decide (n ≤ c) then (bif decide (c ≤ (lim k : Int)) then
        K ⟨.e (.sc (.live st.nx 0)), [], [], (st.nx, .arr k (List.replicate n.toNat (Zeros.zero k)) 0 false) :: st.hp, st.nx + 1⟩ else none) else none) else none
    | _, _, _ => none
  | .slice t x lo hi mx => match ev st x with
    | some (.e (.sc c)) => (
      numK st lo fun lo => numK st hi fun hi => numK st mx fun mx => sliceK (T.at t) st c lo hi mx K)
    | _ => none
  | .fieldAddr t x i => match T.at t with
    | .st _ offs w => (match fieldAt offs w i with
      | some (off, _) => match ev st x with
        | some (.e (.sc (.ptr b o))) => k0 (.e (.sc (.ptr b (o + off))))
        | some (.e (.sc (.eptr b v k j s))) => k0 (.e (.sc (.eptr b v k j (s + off))))
        | some (.e (.sc (.fptr cs))) => (match seek (cs.map .f) off with
          | some r => match decF r with
            | some r => k0 (.e (.sc (.fptr r)))
            | none => none
          | none => none)
        | _ => none
      | none => none)
    | _ => none
  | .field t x i => match T.at t, ev st x with
    | .st _ offs w, some (.e (.ag cs)) => (match fieldAt offs w i, (lk t (fts S)).bind (·[i]?) with
      | some (off, _), some ft => match seek cs off with
        | some r => match takeW r (T.at ft).width with
          | some r => match mkPE (T.at ft).agg r with
            | some p => k0 (.e p)
            | none => none
          | none => none
        | none => none
      | _, _ => none)
    | _, _ => none
  | .indexAddr t x i => match ev st x, ev st i with
    | some (.e (.sc c)), some (.e (.sc (.f (.int _ n)))) => indexK (T.at t) st c n fun c rd => K ⟨.e (.sc c), rd, [], st.hp, st.nx⟩
    | _, _ => none
  | .index xt x i => match T.at xt, ev st x, ev st i with
    | .sc .str, some (.e (.sc (.f (.str l)))), some (.e (.sc (.f (.int _ n)))) => bif decide (0 ≤ n) then (match l[n.toNat]? with
        | some b => k0 (.e (.sc (.f (.int .u8 (b.toNat : Int)))))
        | none => none) else none
    | .ar k' m, some (.e (.ag [.f (.arr k n' L)])), some (.e (.sc (.f (.int _ n)))) => if k' = k then (bif Nat.beq n' m && decide (0 ≤ n) then (match L[n.toNat]? with
        | some x => match mkPE (aggK k) ((enc k x).map .f) with
          | some p => k0 (.e p)
          | none => none
        | none => none) else none) else none
    | _, _, _ => none
  | .extract x i => match ev st x with
    | some (.tu ps) => (match ps[i]? with
      | some p => k0 (.e p)
      | none => none)
    | _ => none
  | .call c => match c.callee with
    | .value f => match ev st f, evs st c.args.toList with
      | some (.e (.sc (.clo f caps))), some ps => (match lk f O.call with
        | some g => g (ps ++ caps.map fun b => .e (.sc (.ptr b 0))) st K
        | none => none)
      | some (.e (.sc (.f (.fn f)))), some ps => (match lk f O.call with
        | some g => g ps st K
        | none => none)
      | _, _ => none
    | .builtin b => match b, evs st c.args.toList with
      | .len, some [.e (.sc x)] => (match lenC st.hp (match c.argTypes.toList with | t :: _ => T.at t | [] => .none) x with
        | some (n, rd) => K ⟨intPV n, rd, [], st.hp, st.nx⟩
        | none => none)
      | .append, some [.e (.sc s), .e (.sc x)] => (match c.argTypes.toList with
        | t :: t2 :: _ => (match T.at t, T.at t2 with
          | .sl k, .sl _ => appendK st k s x K
          | .sl k, .sc .str => appendK st k s x K
          | _, _ => none)
        | _ => none)
      | .min, some [.e (.sc (.f (.int k a))), .e (.sc (.f (.int _ b)))] => k0 (.e (.sc (.f (.int k (if b < a then b else a)))))
      | .max, some [.e (.sc (.f (.int k a))), .e (.sc (.f (.int _ b)))] => k0 (.e (.sc (.f (.int k (if b > a then b else a)))))
      | _, _ => none
    | _ => none
  | _ => none
where
  decF : List (Cell S) → Option (List (FC S))
    | [] => some []
    | .f c :: cs => match decF cs with
      | some l => some (c :: l)
      | none => none
    | _ => none

structure Log where
  dst : Option Nat
  use : List Nat
  rd : List Nat
  wr : List Nat

def tmpsOf : List Operand → List Nat
  | [] => []
  | .tmp t :: xs => t :: tmpsOf xs
  | _ :: xs => tmpsOf xs

def put (d : Option Nat) (p : PV S) (st : St S) : St S :=
  match d with
  | some d => { st with tm := (d, p) :: st.tm }
  | none => st

/-- Is an operation wanted? Its guard is a Bool that is known. -/
def wantedP (ops : Array Oper) (o : Oper) (st : St S) : Option Bool :=
  match o.guard with
  | none => some true
  | some (j, want) => match ops[j]? with
    | some oj => match oj.dst with
      | some d => match lk d st.tm with
        | some (.e (.sc (.f (.bool b)))) => some (b == want)
        | some .undef => some false
        | _ => none
      | none => none
    | none => none

def guards (ops : List Oper) (i : Nat) : Bool := ops.any fun o => match o.guard with | some (j, _) => Nat.beq i j | none => false

def gtmp (ops : Array Oper) (o : Oper) : List Nat :=
  match o.guard with
  | none => []
  | some (j, _) => match ops[j]? with
    | some oj => oj.dst.toList
    | none => []

def dstOk (n : Nat) : Option Nat → Bool
  | some d => Nat.blt d n
  | none => true

def regionK [Prog S] (O : Orc S R) (n : Nat) (ops : Array Oper) : List Oper → Nat → St S → List Log → (St S → List Log → Option R) → Option R
  | [], _, st, lg, K => K st lg
  | o :: rest, i, st, lg, K =>
    bif dstOk n o.dst then
    (match wantedP ops o st with
    | some true => opK O st o.op o.type fun e =>
      let go (p : PV S) : Option R := bif e.wr.all (fun b => Nat.blt b st.nx) then regionK O n ops rest (i + 1) (put o.dst p ⟨st.tm, e.hp, e.nx⟩) (⟨o.dst, gtmp ops o ++ tmpsOf o.op.operands.toList, e.rd, List.range' st.nx (e.nx - st.nx) ++ e.wr⟩ :: lg) K else none
      (match e.val with
      | .e (.sc (.f (.bool b))) => bif guards ops.toList i then (match b with | true => go (.e (.sc (.f (.bool true)))) | false => go (.e (.sc (.f (.bool false))))) else go (.e (.sc (.f (.bool b))))
      | p => go p)
    | some false => regionK O n ops rest (i + 1) (put o.dst .undef st) (⟨o.dst, gtmp ops o, [], []⟩ :: lg) K
    | none => none) else none

def meets (a b : List Nat) : Bool := a.any fun x => has x b

def Log.clash (a b : Log) : Bool :=
  meets a.dst.toList (b.dst.toList ++ b.use) || meets b.dst.toList a.use || meets a.wr (b.rd ++ b.wr) || meets b.wr a.rd

/-- What stands ahead of an operation, by its edges: a mask. `acc`: the masks so far, the last one first. -/
def maskOf (acc : List Nat) (i : Nat) : List Edge → Nat → Option Nat
  | [], m => some m
  | e :: es, m => bif Region.binds .any e then
      (bif Nat.blt e.on i then (match acc[i - 1 - e.on]? with
        | some k => maskOf acc i es (m ||| 2 ^ e.on ||| k)
        | none => none) else none) else maskOf acc i es m

/-- What is not ordered by the edges does not clash. `ls`: the logs ahead, the last one first. -/
def chkAt (m : Nat) (l : Log) : List Log → Nat → Bool
  | [], _ => true
  | k :: ks, i => (m.testBit (i - 1) || !k.clash l) && chkAt m l ks (i - 1)

def chkR : List Oper → List Log → Nat → List Nat → List Log → Bool
  | o :: os, l :: ls, i, acc, prev => match maskOf acc i o.after.toList 0 with
    | some m => chkAt m l prev i && chkR os ls (i + 1) (m :: acc) (l :: prev)
    | none => false
  | [], [], _, _, _ => true
  | _, _, _, _, _ => false

def chk (ops : Array Oper) (lg : List Log) : Bool := chkR ops.toList lg.reverse 0 [] []

def loopKey : Code → Nat
  | .seq a _ => loopKey a
  | .region id _ _ => id
  | .block _ a => loopKey a
  | _ => 1000000

def execK [Prog S] (O : Orc S R) (n : Nat) : Code → St S → (Exit → St S → Option R) → Option R
  | .skip, st, K => K .normal st
  | .region _ ops draw, st, K => regionK O n ops ops.toList 0 st [] fun st lg =>
      bif draw then (bif chk ops lg then K .normal st else none) else K .normal st
  | .seq a b, st, K => execK O n a st fun e st => match e with
    | .normal => execK O n b st K
    | e => K e st
  | .cond c a b, st, K => match ev st c with
    | some (.e (.sc (.f (.bool t)))) => (match t with
      | true => execK O n a st K
      | false => execK O n b st K)
    | _ => none
  | .block id a, st, K => execK O n a st fun e st => match e with
    | .exit id' => bif Nat.beq id' id then K .normal st else K (.exit id') st
    | e => K e st
  | .loop b, st, K => match lk (loopKey b) O.loop with
    | some g => g st K
    | none => none
  | .exit id, st, K => K (.exit id) st
  | .ret, st, K => K .ret st
  | _, _, _ => none

def resPE [Prog S] (st : St S) : ResultVar → Option (PE S)
  | .tmp t => match lk t st.tm with
    | some (.e p) => some p
    | _ => none
  | .cell a t => match lk a st.tm with
    | some (.e (.sc (.ptr b 0))) => match lk b st.hp with
      | some (.var cs _) => match takeW cs (Tab.at (tab : Tab S) t).width with
        | some r => mkPE (Tab.at (tab : Tab S) t).agg r
        | none => none
      | _ => none
    | _ => none

def resPEs [Prog S] (st : St S) : List ResultVar → Option (List (PE S))
  | [] => some []
  | r :: rs => match resPE st r with
    | some p => match resPEs st rs with
      | some ps => some (p :: ps)
      | none => none
    | none => none

def args0 : List (PV S) → Nat → List (Nat × PV S)
  | [], _ => []
  | p :: ps, i => (i, p) :: args0 ps (i + 1)

def funK [Prog S] (O : Orc S R) (fn : Func) (args : List (PV S)) (hp : List (Nat × Blk S)) (nx : Nat) (K : List (PE S) → St S → Option R) : Option R :=
  match fn.body with
  | some c => bif !(Nat.ble args.length fn.ntmps) then none else execK O fn.ntmps c ⟨args0 args 0, hp, nx⟩ fun e st =>
    let fin : Option R := match resPEs st fn.results.toList with | some ps => K ps st | none => none
    match e with
    | .normal => fin
    | .ret => fin
    | _ => none
  | none => none

end Vm
end

section
namespace Vm
open Go
variable {S : Sig}

structure Cx (S : Sig) where
  g : Nat → Option (Nat × Nat)
  hp : Nat → Option (Blk S)
  w : World
  M0 : Nat → Prop

def Blk.fz : Blk S → Bool
  | .var _ z => z
  | .arr _ _ _ z => z

def Cx.Mo (X : Cx S) (r : Nat) : Prop := ∃ b blk n, X.hp b = some blk ∧ blk.fz = false ∧ X.g b = some (r, n)
def Cx.M (X : Cx S) (r : Nat) : Prop := X.M0 r ∨ X.Mo r

def ptrs (X : Cx S) : List Nat → List Value → Prop
  | [], [] => True
  | b :: bs, v :: vs => (∃ r n cs z, X.g b = some (r, n) ∧ X.hp b = some (.var cs z) ∧ v = .pointer (some ⟨r, 0, none⟩)) ∧ ptrs X bs vs
  | _, _ => False

def liveAt (X : Cx S) (b : Nat) (k : S.K) (L : List (S.Ty k)) (v : Value) : Prop :=
  match X.g b with
  | none => L = [] ∧ ∃ a, v = .slice a 0 0
  | some (r, cap) => v = .slice (some ⟨r, 0, none⟩) L.length cap

inductive RelC (X : Cx S) : Cell S → List Value → Prop
  | f (c vs) : RelF X.w X.M c vs → RelC X (.f c) vs
  | ptr (b off r n cs z) : X.g b = some (r, n) → X.hp b = some (.var cs z) → RelC X (.ptr b off) [.pointer (some ⟨r, off, none⟩)]
  | eptr (b ver k i sub k' L ver' z r p) : X.hp b = some (.arr k' L ver' z) → ver ≤ ver' →
      (ver = ver' → k' = k ∧ i < L.length ∧ (∃ n, X.g b = some (r, n)) ∧ p = i * S.es k + sub) → RelC X (.eptr b ver k i sub) [.pointer (some ⟨r, p, none⟩)]
  | aptr (b off k i r n cs z) : X.g b = some (r, n) → X.hp b = some (.var cs z) → RelC X (.aptr b off k i) [.pointer (some ⟨r, off + i * S.es k, none⟩)]
  | asl (b off k lo hi r n cs z o c) : X.g b = some (r, n) → X.hp b = some (.var cs z) → (lo < hi → o = off + lo * S.es k) → hi - lo ≤ c →
      RelC X (.asl b off k lo hi) [.slice (some ⟨r, o, none⟩) (hi - lo) c]
  | fptr (cs r o vs) : ¬ X.M r → r < X.w.heap.size → cellsAt X.w r o vs → RelFs X.w X.M cs vs → RelC X (.fptr cs) [.pointer (some ⟨r, o, none⟩)]
  | live (b ver k L ver' z v) : X.hp b = some (.arr k L ver' z) → ver ≤ ver' → (ver = ver' → liveAt X b k L v) → v.oneCell' = true → RelC X (.live b ver) [v]
  | nilsl (a) : RelC X .nilsl [.slice a 0 0]
  | clo (f caps vs) : ptrs X caps vs → RelC X (.clo f caps) [.func (.func f) #[] vs.toArray]

inductive RelCs (X : Cx S) : List (Cell S) → List Value → Prop
  | nil : RelCs X [] []
  | cons (c cs us vs) : us.length = c.width → RelC X c us → RelCs X cs vs → RelCs X (c :: cs) (us ++ vs)

def RelE (X : Cx S) : PE S → Value → Prop
  | .sc c, v => RelC X c [v] ∧ c.isSc = true
  | .ag cs, v => ∃ vs : List Value, v = .agg vs.toArray ∧ RelCs X cs vs

inductive RelEL (X : Cx S) : List (PE S) → List Value → Prop
  | nil : RelEL X [] []
  | cons (p ps v vs) : RelE X p v → RelEL X ps vs → RelEL X (p :: ps) (v :: vs)

def RelP (X : Cx S) : PV S → Value → Prop
  | .e p, v => RelE X p v
  | .tu ps, v => ∃ vs : List Value, v = .tuple vs.toArray ∧ RelEL X ps vs
  | .undef, v => v = Go.undef

def RelB (X : Cx S) (b : Nat) : Blk S → Prop
  | .var cs z => ∃ r n el zz vs, X.g b = some (r, n) ∧ X.w.heap[r]? = some (.cells vs.toArray el zz) ∧ (z = false → zz = (0, 0)) ∧ RelCs X cs vs
  | .arr k L _ z => match X.g b with
    | none => L = []
    | some (r, cap) => ∃ el zz vs rest, X.w.heap[r]? = some (.cells (vs ++ rest).toArray el zz) ∧ (z = false → zz = (0, 0)) ∧ RelEs X.w X.M k L vs ∧
        L.length ≤ cap ∧ cap * S.es k ≤ (vs ++ rest).length

structure WF (X : Cx S) : Prop where
  blk : ∀ b c, X.hp b = some c → RelB X b c
  inj : ∀ b b' c c' r n n', X.hp b = some c → X.hp b' = some c' → X.g b = some (r, n) → X.g b' = some (r, n') → b = b'
  m0 : ∀ r, X.M0 r → r < X.w.heap.size
  sep : ∀ b c r n, X.hp b = some c → X.g b = some (r, n) → ¬ X.M0 r
  gl : ∀ x, x ∈ S.glob → x.1 < X.w.heap.size ∧ ¬ X.M x.1 ∧ ∃ cs t f, X.w.heap[x.1]? = some (.cells cs t f) ∧ x.2 cs

def stepB (X X' : Cx S) (b : Nat) : Blk S → Blk S → Prop
  | .var _ _, .var _ _ => X'.g b = X.g b
  | .arr k L v _, .arr k' L' v' _ => v ≤ v' ∧ (v = v' → k' = k ∧ L'.length = L.length ∧ X'.g b = X.g b)
  | _, _ => False

structure Ext (X X' : Cx S) : Prop where
  chg : Chg X.Mo X.w X'.w
  m : ∀ r, X'.M r → X.M r ∨ X.w.heap.size ≤ r
  hp : ∀ b c, X.hp b = some c → ∃ c', X'.hp b = some c' ∧ stepB X X' b c c'

theorem stepB.refl (X : Cx S) (b : Nat) (c : Blk S) : stepB X X b c c := by
  cases c <;> simp [stepB]

theorem Ext.refl (X : Cx S) : Ext X X := ⟨Chg.refl _ _, fun _ h => .inl h, fun b c h => ⟨c, h, stepB.refl X b c⟩⟩

theorem WF.lt {X : Cx S} (h : WF X) {r : Nat} (hr : X.M r) : r < X.w.heap.size := by
  rcases hr with hr | ⟨b, c, n, h1, _, h3⟩
  · exact h.m0 r hr
  · have := h.blk b c h1
    cases c with
    | var cs z =>
      obtain ⟨r', n', el, zz, vs, hg, hw, _⟩ := this
      rw [hg] at h3; cases h3
      exact Array.getElem?_eq_some_iff.1 hw |>.1
    | arr k L v z =>
      simp only [RelB, h3] at this
      obtain ⟨el, zz, vs, rest, hw, _⟩ := this
      exact Array.getElem?_eq_some_iff.1 hw |>.1

theorem Ext.trans {X Y Z : Cx S} (h : Ext X Y) (k : Ext Y Z) (hm : ∀ r, Y.Mo r → X.Mo r ∨ X.w.heap.size ≤ r) : Ext X Z := by
  refine ⟨h.chg.trans k.chg hm, fun r hr => ?_, fun b c hb => ?_⟩
  · rcases k.m r hr with h' | h'
    · exact h.m r h'
    · exact .inr (Nat.le_trans h.chg.size h')
  · obtain ⟨c', h1, h2⟩ := h.hp b c hb
    obtain ⟨c'', h3, h4⟩ := k.hp b c' h1
    refine ⟨c'', h3, ?_⟩
    cases c <;> cases c' <;> cases c'' <;> simp only [stepB] at h2 h4 ⊢
    · rw [h4, h2]
    · obtain ⟨a1, a2⟩ := h2
      obtain ⟨b1, b2⟩ := h4
      refine ⟨Nat.le_trans a1 b1, fun e => ?_⟩
      obtain ⟨x1, x2, x3⟩ := a2 (by omega)
      obtain ⟨y1, y2, y3⟩ := b2 (by omega)
      exact ⟨y1.trans x1, y2.trans x2, y3.trans x3⟩

section
variable {X X' : Cx S} (h : Ext X X')
include h

theorem Ext.ptrs : ∀ {bs : List Nat} {vs : List Value}, ptrs X bs vs → Vm.ptrs X' bs vs
  | [], [], _ => trivial
  | b :: bs, v :: vs, ⟨⟨r, n, cs, z, h1, h2, h3⟩, h4⟩ => by
    obtain ⟨c', h5, h6⟩ := h.hp b _ h2
    cases c' with
    | var cs' z' => exact ⟨⟨r, n, cs', z', by simp only [stepB] at h6; rw [h6]; exact h1, h5, h3⟩, Ext.ptrs h4⟩
    | arr => simp [stepB] at h6
  | [], _ :: _, hf => hf.elim
  | _ :: _, [], hf => hf.elim

theorem Ext.chgM : Chg X.M X.w X'.w :=
  ⟨h.chg.os, h.chg.tape, h.chg.output, h.chg.size, fun b hb hm => h.chg.block b hb (fun h' => hm (.inr h'))⟩

theorem Ext.gl (hg : ∀ x, x ∈ S.glob → x.1 < X.w.heap.size ∧ ¬ X.M x.1 ∧ ∃ cs t f, X.w.heap[x.1]? = some (.cells cs t f) ∧ x.2 cs) :
    ∀ x, x ∈ S.glob → x.1 < X'.w.heap.size ∧ ¬ X'.M x.1 ∧ ∃ cs t f, X'.w.heap[x.1]? = some (.cells cs t f) ∧ x.2 cs := by
  intro x hx
  obtain ⟨h1, h2, h3⟩ := hg x hx
  refine ⟨Nat.lt_of_lt_of_le h1 h.chg.size, fun h' => (h.m _ h').elim h2 (fun h'' => by omega), ?_⟩
  rw [h.chgM.block x.1 h1 h2]
  exact h3

theorem Ext.relC {c : Cell S} {vs : List Value} (hc : RelC X c vs) : RelC X' c vs := by
  cases hc with
  | f c vs h1 => exact .f c vs (h1.up h.chgM h.m)
  | ptr b off r n cs z h1 h2 =>
    obtain ⟨c', h5, h6⟩ := h.hp b _ h2
    cases c' with
    | var cs' z' => exact .ptr b off r n cs' z' (by simp only [stepB] at h6; rw [h6]; exact h1) h5
    | arr => simp [stepB] at h6
  | eptr b ver k i sub k' L ver' z r p h1 h2 h3 =>
    obtain ⟨c', h5, h6⟩ := h.hp b _ h1
    cases c' with
    | var => simp [stepB] at h6
    | arr k2 L2 v2 z2 =>
      simp only [stepB] at h6
      refine .eptr b ver k i sub k2 L2 v2 z2 r p h5 (Nat.le_trans h2 h6.1) (fun e => ?_)
      obtain ⟨e1, e2, e3⟩ := h6.2 (by omega)
      obtain ⟨a1, a2, ⟨n, a3⟩, a4⟩ := h3 (by omega)
      exact ⟨e1.trans a1, by omega, ⟨n, by rw [e3]; exact a3⟩, a4⟩
  | aptr b off k i r n cs z h1 h2 =>
    obtain ⟨c', h5, h6⟩ := h.hp b _ h2
    cases c' with
    | var cs' z' => exact .aptr b off k i r n cs' z' (by simp only [stepB] at h6; rw [h6]; exact h1) h5
    | arr => simp [stepB] at h6
  | asl b off k lo hi r n cs z o c h1 h2 h3 h4 =>
    obtain ⟨c', h5, h6⟩ := h.hp b _ h2
    cases c' with
    | var cs' z' => exact .asl b off k lo hi r n cs' z' o c (by simp only [stepB] at h6; rw [h6]; exact h1) h5 h3 h4
    | arr => simp [stepB] at h6
  | fptr cs r o vs h1 h2 h3 h4 =>
    exact .fptr cs r o vs (fun h' => (h.m r h').elim h1 (fun h'' => by omega)) (Nat.lt_of_lt_of_le h2 h.chg.size) (h.chgM.cellsAt h2 h1 h3) (h4.up h.chgM h.m)
  | live b ver k L ver' z v h1 h2 h3 ho =>
    obtain ⟨c', h5, h6⟩ := h.hp b _ h1
    cases c' with
    | var => simp [stepB] at h6
    | arr k2 L2 v2 z2 =>
      simp only [stepB] at h6
      refine .live b ver k2 L2 v2 z2 v h5 (Nat.le_trans h2 h6.1) (fun e => ?_) ho
      obtain ⟨e1, e2, e3⟩ := h6.2 (by omega)
      have := h3 (by omega)
      subst e1
      unfold liveAt at *
      rw [e3]
      cases hg : X.g b with
      | none =>
        rw [hg] at this
        obtain ⟨a1, a2⟩ := this
        subst a1
        exact ⟨List.eq_nil_of_length_eq_zero (by simpa using e2), a2⟩
      | some p =>
        obtain ⟨r, cap⟩ := p
        rw [hg] at this
        simp only at this ⊢
        rw [this, e2]
  | nilsl a => exact .nilsl a
  | clo f caps vs h1 => exact .clo f caps vs (h.ptrs h1)

theorem Ext.relCs {cs : List (Cell S)} {vs : List Value} (hc : RelCs X cs vs) : RelCs X' cs vs := by
  induction hc with
  | nil => exact .nil
  | cons c cs us vs h1 h2 _ ih => exact .cons c cs us vs h1 (h.relC h2) ih

theorem Ext.relE {p : PE S} {v : Value} (hc : RelE X p v) : RelE X' p v := by
  cases p with
  | sc c => exact ⟨h.relC hc.1, hc.2⟩
  | ag cs => obtain ⟨vs, h1, h2⟩ := hc; exact ⟨vs, h1, h.relCs h2⟩

theorem Ext.relEL {ps : List (PE S)} {vs : List Value} (hc : RelEL X ps vs) : RelEL X' ps vs := by
  induction hc with
  | nil => exact .nil
  | cons p ps v vs h1 _ ih => exact .cons p ps v vs (h.relE h1) ih

theorem Ext.relP {p : PV S} {v : Value} (hc : RelP X p v) : RelP X' p v := by
  cases p with
  | e p => exact h.relE hc
  | tu ps => obtain ⟨vs, h1, h2⟩ := hc; exact ⟨vs, h1, h.relEL h2⟩
  | undef => exact hc

/-- A block that is as it was, and whose memory is as it was, says what it said. -/
theorem Ext.relB {b : Nat} {c : Blk S} (hb : RelB X b c) (hg : X'.g b = X.g b) (hw : ∀ r n, X.g b = some (r, n) → X'.w.heap[r]? = X.w.heap[r]?) : RelB X' b c := by
  cases c with
  | var cs z =>
    obtain ⟨r, n, el, zz, vs, h1, h2, h3, h4⟩ := hb
    exact ⟨r, n, el, zz, vs, by rw [hg]; exact h1, by rw [hw r n h1]; exact h2, h3, h.relCs h4⟩
  | arr k L v z =>
    simp only [RelB] at *
    rw [hg]
    cases hgb : X.g b with
    | none => rw [hgb] at hb; exact hb
    | some p =>
      obtain ⟨r, cap⟩ := p
      rw [hgb] at hb
      obtain ⟨el, zz, vs, rest, h2, h3, h4, h5, h6⟩ := hb
      exact ⟨el, zz, vs, rest, by rw [hw r cap hgb]; exact h2, h3, h4.up h.chgM h.m, h5, h6⟩
end

end Vm
end

section
namespace Vm
open Go
variable {S : Sig} {X X' : Cx S}

theorem lk_cons {α : Type} (n m : Nat) (a : α) (l : List (Nat × α)) : lk n ((m, a) :: l) = if n = m then some a else lk n l := by
  simp only [lk]
  by_cases h : n = m
  · subst h; simp
  · have : Nat.beq m n = false := by
      rw [Bool.eq_false_iff]; intro h'; exact h (Nat.eq_of_beq_eq_true h').symm
    simp [this, h]

theorem RelF.one {w : World} {M : Nat → Prop} {c : FC S} {vs : List Value} : RelF w M c vs → ∀ v ∈ vs, v.oneCell' = true
  | .int .., v, hv => by simp at hv; subst hv; rfl
  | .bool .., v, hv => by simp at hv; subst hv; rfl
  | .str .., v, hv => by simp at hv; subst hv; rfl
  | .err e, v, hv => by simp at hv; subst hv; cases e <;> rfl
  | .erro .., v, hv => by simp at hv; subst hv; rfl
  | .fn .., v, hv => by simp at hv; subst hv; rfl
  | .oth _ h, v, hv => by simp at hv; subst hv; exact h
  | .sl0 .., v, hv => by simp at hv; subst hv; rfl
  | .sl .., v, hv => by simp at hv; subst hv; rfl
  | .arr k n L vs _ h, v, hv => RelEs.one h v hv
where
  RelEs.one {w : World} {M : Nat → Prop} {k : S.K} {L : List (S.Ty k)} {vs : List Value} : RelEs w M k L vs → ∀ v ∈ vs, v.oneCell' = true
  | .nil _, v, hv => by simp at hv
  | .cons k x L us vs h1 h2 h3, v, hv => by
    rcases List.mem_append.1 hv with h | h
    · exact RelFs.one h2 v h
    · exact RelEs.one h3 v h
  RelFs.one {w : World} {M : Nat → Prop} {cs : List (FC S)} {vs : List Value} : RelFs w M cs vs → ∀ v ∈ vs, v.oneCell' = true
  | .nil, v, hv => by simp at hv
  | .cons c cs us vs h1 h2 h3, v, hv => by
    rcases List.mem_append.1 hv with h | h
    · exact RelF.one h2 v h
    · exact RelFs.one h3 v h

theorem RelC.one {c : Cell S} {vs : List Value} (h : RelC X c vs) : ∀ v ∈ vs, v.oneCell' = true := by
  cases h with
  | f c vs h => exact h.one
  | live b ver k L ver' z v h1 h2 h3 ho => simpa using ho
  | _ => simp [Value.oneCell']

theorem RelCs.one {cs : List (Cell S)} {vs : List Value} (h : RelCs X cs vs) : ∀ v ∈ vs, v.oneCell' = true := by
  induction h with
  | nil => simp
  | cons c cs us vs _ h2 _ ih =>
    intro v hv
    rcases List.mem_append.1 hv with h | h
    · exact h2.one v h
    · exact ih v h

theorem RelCs.len {cs : List (Cell S)} {vs : List Value} (h : RelCs X cs vs) : vs.length = widthsC cs := by
  induction h with
  | nil => rfl
  | cons c cs us vs h1 _ _ ih => simp [widthsC, h1, ih]

theorem RelCs.append {cs ds : List (Cell S)} {vs us : List Value} (h : RelCs X cs vs) (k : RelCs X ds us) : RelCs X (cs ++ ds) (vs ++ us) := by
  induction h with
  | nil => simpa using k
  | cons c cs us' vs h1 h2 _ ih => simpa [List.append_assoc] using RelCs.cons c (cs ++ ds) us' (vs ++ us) h1 h2 ih

theorem RelEs.len {w : World} {M : Nat → Prop} {k : S.K} : ∀ {L : List (S.Ty k)} {vs : List Value}, RelEs w M k L vs → vs.length = L.length * S.es k
  | _, _, .nil _ => by simp
  | _, _, .cons k x L us vs h1 h2 h3 => by
    have := RelEs.len h3
    simp [h1, this, Nat.add_mul]; omega

theorem RelFs.toC {cs : List (FC S)} {vs : List Value} : RelFs X.w X.M cs vs → RelCs X (cs.map .f) vs
  | .nil => .nil
  | .cons c cs us vs h1 h2 h3 => .cons (.f c) (cs.map .f) us vs h1 (.f c us h2) (RelFs.toC h3)

theorem RelCs.toF : ∀ {cs : List (FC S)} {vs : List Value}, RelCs X (cs.map .f) vs → RelFs X.w X.M cs vs
  | [], vs, h => by cases h; exact .nil
  | c :: cs, vs, h => by
    cases h with
    | cons _ _ us ws h1 h2 h3 =>
      cases h2 with
      | f _ _ h2 => exact .cons c cs us ws h1 h2 (RelCs.toF h3)

theorem RelFs.append {w : World} {M : Nat → Prop} {cs ds : List (FC S)} {vs us : List Value} (h : RelFs w M cs vs) (k : RelFs w M ds us) : RelFs w M (cs ++ ds) (vs ++ us) := by
  induction cs generalizing vs with
  | nil => cases h; simpa using k
  | cons c cs ih =>
    cases h with
    | cons c cs us' vs h1 h2 h3 => simpa [List.append_assoc] using RelFs.cons c (cs ++ ds) us' (vs ++ us) h1 h2 (ih h3)

/-- Element i of a row. -/
theorem RelEs.get {w : World} {M : Nat → Prop} {k : S.K} : ∀ {L : List (S.Ty k)} {vs : List Value} (i : Nat) (x : S.Ty k), RelEs w M k L vs → L[i]? = some x →
    ∃ a us b, vs = a ++ us ++ b ∧ a.length = i * S.es k ∧ us.length = S.es k ∧ RelFs w M (enc k x) us
  | _, _, i, x, .nil _, h => by simp at h
  | _, _, 0, x, .cons _ y L us vs h1 h2 h3, h => by
    simp at h; subst h
    exact ⟨[], us, vs, by simp, by simp, h1, h2⟩
  | _, _, i + 1, x, .cons _ y L us vs h1 h2 h3, h => by
    obtain ⟨a, us', b, e1, e2, e3, e4⟩ := RelEs.get i x h3 (by simpa using h)
    exact ⟨us ++ a, us', b, by simp [e1], by simp [h1, e2, Nat.add_mul]; omega, e3, e4⟩

/-- Element i of a row, another one. -/
theorem RelEs.set {w : World} {M : Nat → Prop} {k : S.K} : ∀ {L : List (S.Ty k)} {vs : List Value} (i : Nat) (y : S.Ty k) (us : List Value), RelEs w M k L vs → i < L.length →
    us.length = S.es k → RelFs w M (enc k y) us → RelEs w M k (L.set i y) (vs.take (i * S.es k) ++ us ++ vs.drop (i * S.es k + S.es k))
  | _, _, i, y, us, .nil _, h, _, _ => by simp at h
  | _, _, 0, y, us, .cons _ x L us' vs h1 h2 h3, _, hu, hr => by
    simp only [List.set_cons_zero, Nat.zero_mul, List.take_zero, List.nil_append, Nat.zero_add]
    rw [← h1, List.drop_left]
    exact .cons k y L us vs hu hr h3
  | _, _, i + 1, y, us, .cons _ x L us' vs h1 h2 h3, h, hu, hr => by
    have ih := RelEs.set i y us h3 (by simpa using h) hu hr
    simp only [List.set_cons_succ]
    have e1 : (us' ++ vs).take ((i + 1) * S.es k) = us' ++ vs.take (i * S.es k) := by
      rw [List.take_append, h1]
      have : (i + 1) * S.es k - S.es k = i * S.es k := by rw [Nat.add_mul]; omega
      rw [this, List.take_of_length_le (by rw [h1, Nat.add_mul]; omega)]
    have e2 : (us' ++ vs).drop ((i + 1) * S.es k + S.es k) = vs.drop (i * S.es k + S.es k) := by
      rw [List.drop_append, h1]
      have : (i + 1) * S.es k + S.es k - S.es k = i * S.es k + S.es k := by rw [Nat.add_mul]; omega
      rw [this, List.drop_eq_nil_of_le (by rw [h1, Nat.add_mul]; omega), List.nil_append]
    rw [e1, e2]
    simpa [List.append_assoc] using RelEs.cons k x _ us' _ h1 h2 ih

theorem RelEs.append {w : World} {M : Nat → Prop} {k : S.K} : ∀ {L L' : List (S.Ty k)} {vs us : List Value}, RelEs w M k L vs → RelEs w M k L' us → RelEs w M k (L ++ L') (vs ++ us)
  | _, _, _, _, .nil _, h => by simpa using h
  | _, _, _, us, .cons k x L us' vs h1 h2 h3, h => by
    simpa [List.append_assoc] using RelEs.cons k x _ us' _ h1 h2 (RelEs.append h3 h)

theorem RelEs.drop {w : World} {M : Nat → Prop} {k : S.K} : ∀ {L : List (S.Ty k)} {vs : List Value} (i : Nat), RelEs w M k L vs → RelEs w M k (L.drop i) (vs.drop (i * S.es k))
  | _, _, i, .nil _ => by simpa using .nil k
  | _, _, 0, h@(.cons ..) => by simpa using h
  | _, _, i + 1, .cons k x L us vs h1 h2 h3 => by
    have ih := RelEs.drop i h3
    have : (us ++ vs).drop ((i + 1) * S.es k) = vs.drop (i * S.es k) := by
      rw [List.drop_append, h1, List.drop_eq_nil_of_le (by rw [h1, Nat.add_mul]; omega), List.nil_append]
      congr 1; rw [Nat.add_mul]; omega
    rw [this]
    simpa using ih

theorem RelEs.take {w : World} {M : Nat → Prop} {k : S.K} : ∀ {L : List (S.Ty k)} {vs : List Value} (i : Nat), RelEs w M k L vs → RelEs w M k (L.take i) (vs.take (i * S.es k))
  | _, _, i, .nil _ => by simpa using .nil k
  | _, _, 0, .cons k x L us vs h1 h2 h3 => by simpa using .nil k
  | _, _, i + 1, .cons k x L us vs h1 h2 h3 => by
    have ih := RelEs.take i h3
    have : (us ++ vs).take ((i + 1) * S.es k) = us ++ vs.take (i * S.es k) := by
      rw [List.take_append, h1, List.take_of_length_le (by rw [h1, Nat.add_mul]; omega)]
      congr 2; rw [Nat.add_mul]; omega
    rw [this]
    simpa using RelEs.cons k x _ us _ h1 h2 ih

theorem beq0 {n : Nat} (h : n ≠ 0) : Nat.beq n 0 = false := by cases n <;> first | exact absurd rfl h | rfl

theorem seek_sound : ∀ {cs ds : List (Cell S)} {vs : List Value} {n : Nat}, RelCs X cs vs → seek cs n = some ds → ∃ a b, vs = a ++ b ∧ a.length = n ∧ RelCs X ds b
  | [], ds, vs, n, h, hs => by
    simp only [seek] at hs
    cases h
    by_cases hn : n = 0
    · subst hn; simp at hs; subst hs; exact ⟨[], [], rfl, rfl, .nil⟩
    · have := beq0 hn
      simp [this] at hs
  | c :: cs, ds, vs, n, h, hs => by
    simp only [seek] at hs
    by_cases hn : n = 0
    · subst hn; simp at hs; subst hs; exact ⟨[], vs, by simp, rfl, h⟩
    · have hb : Nat.beq n 0 = false := beq0 hn
      simp only [hb, cond_false] at hs
      cases h with
      | cons c cs us vs h1 h2 h3 =>
        by_cases hw : c.width ≤ n
        · have hb2 : Nat.ble c.width n = true := Nat.ble_eq_true_of_le hw
          simp only [hb2, cond_true] at hs
          obtain ⟨a, b, e1, e2, e3⟩ := seek_sound h3 hs
          exact ⟨us ++ a, b, by simp [e1], by simp [h1, e2]; omega, e3⟩
        · have hb2 : Nat.ble c.width n = false := by
            rw [Bool.eq_false_iff]; intro h'; exact hw (Nat.le_of_ble_eq_true h')
          simp [hb2] at hs

theorem takeW_sound : ∀ {cs ds : List (Cell S)} {vs : List Value} {n : Nat}, RelCs X cs vs → takeW cs n = some ds → ∃ a b, vs = a ++ b ∧ a.length = n ∧ RelCs X ds a
  | [], ds, vs, n, h, hs => by
    simp only [takeW] at hs
    cases h
    by_cases hn : n = 0
    · subst hn; simp at hs; subst hs; exact ⟨[], [], rfl, rfl, .nil⟩
    · have := beq0 hn
      simp [this] at hs
  | c :: cs, ds, vs, n, h, hs => by
    simp only [takeW] at hs
    by_cases hn : n = 0
    · subst hn; simp at hs; subst hs; exact ⟨[], vs, by simp, rfl, .nil⟩
    · have hb : Nat.beq n 0 = false := beq0 hn
      simp only [hb, cond_false] at hs
      cases h with
      | cons c cs us vs h1 h2 h3 =>
        by_cases hw : c.width ≤ n
        · have hb2 : Nat.ble c.width n = true := Nat.ble_eq_true_of_le hw
          simp only [hb2, cond_true] at hs
          cases ht : takeW cs (n - c.width) with
          | none => simp [ht] at hs
          | some l =>
            simp only [ht, Option.some.injEq] at hs
            subst hs
            obtain ⟨a, b, e1, e2, e3⟩ := takeW_sound h3 ht
            exact ⟨us ++ a, b, by simp [e1], by simp [h1, e2]; omega, .cons c l us a h1 h2 e3⟩
        · have hb2 : Nat.ble c.width n = false := by
            rw [Bool.eq_false_iff]; intro h'; exact hw (Nat.le_of_ble_eq_true h')
          simp [hb2] at hs

theorem putW_sound : ∀ {cs ds new : List (Cell S)} {vs us : List Value} {off n : Nat}, RelCs X cs vs → RelCs X new us → us.length = n → putW cs off new n = some ds →
    off + n ≤ vs.length ∧ RelCs X ds (vs.take off ++ us ++ vs.drop (off + n))
  | [], ds, new, vs, us, off, n, h, hu, hl, hs => by
    simp only [putW] at hs
    cases h
    by_cases hn : off = 0
    · subst hn
      by_cases hn' : n = 0
      · subst hn'
        have : us = [] := List.eq_nil_of_length_eq_zero hl
        subst this
        simp at hs; subst hs; simpa using hu
      · have := beq0 hn'
        simp [this] at hs
    · have := beq0 hn
      simp [this] at hs
  | c :: cs, ds, new, vs, us, off, n, h, hu, hl, hs => by
    simp only [putW] at hs
    by_cases hn : off = 0
    · subst hn
      simp only [Nat.beq_refl, cond_true] at hs
      cases hk : seek (c :: cs) n with
      | none => simp [hk] at hs
      | some l =>
        simp only [hk, Option.some.injEq] at hs
        subst hs
        obtain ⟨a, b, e1, e2, e3⟩ := seek_sound h hk
        subst e1
        refine ⟨by simp [e2], ?_⟩
        simp only [List.take_zero, List.nil_append, Nat.zero_add]
        rw [← e2, List.drop_left]
        exact hu.append e3
    · have hb : Nat.beq off 0 = false := beq0 hn
      simp only [hb, cond_false] at hs
      cases h with
      | cons c cs us' vs h1 h2 h3 =>
        by_cases hw : c.width ≤ off
        · have hb2 : Nat.ble c.width off = true := Nat.ble_eq_true_of_le hw
          simp only [hb2, cond_true] at hs
          cases hk : putW cs (off - c.width) new n with
          | none => simp [hk] at hs
          | some l =>
            simp only [hk, Option.some.injEq] at hs
            subst hs
            obtain ⟨i1, i2⟩ := putW_sound h3 hu hl hk
            refine ⟨by simp [h1]; omega, ?_⟩
            have t1 : (us' ++ vs).take off = us' ++ vs.take (off - c.width) := by
              rw [List.take_append, h1, List.take_of_length_le (by omega)]
            have t2 : (us' ++ vs).drop (off + n) = vs.drop (off - c.width + n) := by
              rw [List.drop_append, h1, List.drop_eq_nil_of_le (by omega), List.nil_append]
              congr 1; omega
            rw [t1, t2]
            simpa [List.append_assoc] using RelCs.cons c l us' _ h1 h2 i2
        · have hb2 : Nat.ble c.width off = false := by
            rw [Bool.eq_false_iff]; intro h'; exact hw (Nat.le_of_ble_eq_true h')
          simp [hb2] at hs

end Vm
end

section
namespace Vm
open Go
variable {S : Sig} {X X' : Cx S}

theorem Ext.mo (h : Ext X X') (hm : X'.M0 = X.M0) (wf : WF X') {r : Nat} (hr : X'.Mo r) : X.Mo r ∨ X.w.heap.size ≤ r := by
  rcases h.m r (.inr hr) with (h1 | h1) | h1
  · obtain ⟨b, blk, n, h2, h3, h4⟩ := hr
    exact absurd (hm ▸ h1) (wf.sep b blk r n h2 h4)
  · exact .inl h1
  · exact .inr h1

theorem WF.upd (h : WF X) (he : Ext X X') (b : Nat) (c' : Blk S) (hhp : ∀ b', X'.hp b' = if b' = b then some c' else X.hp b') (hg : ∀ b', b' ≠ b → X'.g b' = X.g b')
    (hm : X'.M0 = X.M0) (hb : RelB X' b c')
    (hw : ∀ b' c r n, b' ≠ b → X.hp b' = some c → X.g b' = some (r, n) → X'.w.heap[r]? = X.w.heap[r]?)
    (hn : ∀ r n, X'.g b = some (r, n) → X.w.heap.size ≤ r ∨ ∃ c n', X.hp b = some c ∧ X.g b = some (r, n')) : WF X' := by
  have glt : ∀ b' c r n, X.hp b' = some c → X.g b' = some (r, n) → r < X.w.heap.size := by
    intro b' c r n h1 h2
    have := h.blk b' c h1
    cases c with
    | var cs z =>
      obtain ⟨r', n', el, zz, vs, hg, hw, _⟩ := this
      rw [hg] at h2; cases h2
      exact Array.getElem?_eq_some_iff.1 hw |>.1
    | arr k L v z =>
      simp only [RelB, h2] at this
      obtain ⟨el, zz, vs, rest, hw, _⟩ := this
      exact Array.getElem?_eq_some_iff.1 hw |>.1
  refine ⟨fun b' c hc => ?_, fun b1 b2 c1 c2 r n n' h1 h2 h3 h4 => ?_, fun r hr => ?_, fun b' c r n h1 h2 => ?_, he.gl h.gl⟩
  · by_cases e : b' = b
    · subst e; rw [hhp, if_pos rfl] at hc; cases hc; exact hb
    · rw [hhp, if_neg e] at hc
      exact he.relB (h.blk b' c hc) (hg b' e) (fun r n hr => hw b' c r n e hc hr)
  · rw [hhp] at h1 h2
    by_cases e1 : b1 = b
    · by_cases e2 : b2 = b
      · rw [e1, e2]
      · rw [if_neg e2] at h2
        rw [hg b2 e2] at h4
        subst e1
        rcases hn r n h3 with h5 | ⟨c, n2, h5, h6⟩
        · have := glt b2 c2 r n' h2 h4; omega
        · exact h.inj b1 b2 c c2 r n2 n' h5 h2 h6 h4
    · rw [if_neg e1] at h1
      rw [hg b1 e1] at h3
      by_cases e2 : b2 = b
      · subst e2
        rcases hn r n' h4 with h5 | ⟨c, n2, h5, h6⟩
        · have := glt b1 c1 r n h1 h3; omega
        · exact h.inj b1 b2 c1 c r n n2 h1 h5 h3 h6
      · rw [if_neg e2] at h2
        rw [hg b2 e2] at h4
        exact h.inj b1 b2 c1 c2 r n n' h1 h2 h3 h4
  · rw [hm] at hr; exact Nat.lt_of_lt_of_le (h.m0 r hr) he.chg.size
  · rw [hm]
    rw [hhp] at h1
    by_cases e : b' = b
    · subst e
      rcases hn r n h2 with h5 | ⟨c, n2, h5, h6⟩
      · exact fun h' => by have := h.m0 r h'; omega
      · exact h.sep b' c r n2 h5 h6
    · rw [if_neg e] at h1
      rw [hg b' e] at h2
      exact h.sep b' c r n h1 h2

/-- A new block. -/
def Cx.al (X : Cx S) (b : Nat) (c : Blk S) (o : Obj) (cap : Nat) : Cx S :=
  { g := fun b' => if b' = b then some (X.w.heap.size, cap) else X.g b', hp := fun b' => if b' = b then some c else X.hp b', w := X.w.alloc o, M0 := X.M0 }

theorem Ext.al {b : Nat} (hb : X.hp b = none) (c : Blk S) (o : Obj) (cap : Nat) : Ext X (X.al b c o cap) := by
  refine ⟨⟨rfl, rfl, rfl, by simp [Cx.al], fun r hr _ => Go.RowKit.Below.heap_alloc _ _ _ hr⟩, fun r hr => ?_, fun b' c' hc => ?_⟩
  · rcases hr with hr | ⟨b', c', n, h1, h2, h3⟩
    · exact .inl (.inl hr)
    · by_cases e : b' = b
      · subst e
        simp only [Cx.al, if_pos] at h3
        cases h3
        exact .inr (Nat.le_refl _)
      · simp only [Cx.al, if_neg e] at h1 h3
        exact .inl (.inr ⟨b', c', n, h1, h2, h3⟩)
  · have e : b' ≠ b := fun e => by subst e; rw [hb] at hc; cases hc
    refine ⟨c', by simp only [Cx.al, if_neg e]; exact hc, ?_⟩
    cases c' <;> simp [stepB, Cx.al, if_neg e]

theorem WF.al (h : WF X) {b : Nat} (hb : X.hp b = none) (c : Blk S) (o : Obj) (cap : Nat) (hc : RelB (X.al b c o cap) b c) : WF (X.al b c o cap) := by
  refine h.upd (Ext.al hb c o cap) b c (fun _ => rfl) (fun b' e => by simp [Cx.al, e]) rfl hc (fun b' c' r n e h1 h2 => ?_) (fun r n hr => .inl ?_)
  · have := h.blk b' c' h1
    refine Go.RowKit.Below.heap_alloc _ _ _ ?_
    cases c' with
    | var cs z =>
      obtain ⟨r', n', el, zz, vs, hg, hw, _⟩ := this
      rw [hg] at h2; cases h2
      exact Array.getElem?_eq_some_iff.1 hw |>.1
    | arr k L v z =>
      simp only [RelB, h2] at this
      obtain ⟨el, zz, vs, rest, hw, _⟩ := this
      exact Array.getElem?_eq_some_iff.1 hw |>.1
  · simp only [Cx.al, if_pos] at hr; cases hr; exact Nat.le_refl _

/-- A block that may not be written any more. -/
def Blk.frozen : Blk S → Blk S
  | .var cs _ => .var cs true
  | .arr k L v _ => .arr k L v true

def Cx.fr (X : Cx S) (b : Nat) : Cx S :=
  { X with hp := fun b' => if b' = b then (X.hp b).map Blk.frozen else X.hp b' }

theorem RelC.hpmono {c : Cell S} {vs : List Value} (h : Ext X X') (hc : RelC X c vs) : RelC X' c vs := h.relC hc

theorem Ext.fr (b : Nat) : Ext X (X.fr b) := by
  refine ⟨Chg.refl _ _, fun r hr => .inl ?_, fun b' c' hc => ?_⟩
  · rcases hr with hr | ⟨b', c', n, h1, h2, h3⟩
    · exact .inl hr
    · by_cases e : b' = b
      · subst e
        simp only [Cx.fr, if_pos] at h1
        cases hx : X.hp b' with
        | none => simp [hx] at h1
        | some c =>
          simp only [hx, Option.map_some, Option.some.injEq] at h1
          subst h1
          cases c <;> simp [Blk.frozen, Blk.fz] at h2
      · simp only [Cx.fr, if_neg e] at h1
        exact .inr ⟨b', c', n, h1, h2, h3⟩
  · by_cases e : b' = b
    · subst e
      refine ⟨c'.frozen, by simp [Cx.fr, hc], ?_⟩
      cases c' <;> simp [Blk.frozen, stepB, Cx.fr]
    · refine ⟨c', by simp [Cx.fr, e, hc], ?_⟩
      cases c' <;> simp [stepB, Cx.fr]

theorem WF.fr (h : WF X) (b : Nat) : WF (X.fr b) := by
  have he : Ext X (X.fr b) := Ext.fr b
  refine ⟨fun b' c hc => ?_, fun b1 b2 c1 c2 r n n' h1 h2 h3 h4 => ?_, h.m0, fun b' c r n h1 h2 => ?_, he.gl h.gl⟩
  · by_cases e : b' = b
    · subst e
      simp only [Cx.fr, if_pos] at hc
      cases hx : X.hp b' with
      | none => simp [hx] at hc
      | some c0 =>
        simp only [hx, Option.map_some, Option.some.injEq] at hc
        subst hc
        have := he.relB (h.blk b' c0 hx) rfl (fun _ _ _ => rfl)
        cases c0 with
        | var cs z =>
          obtain ⟨r, n, el, zz, vs, h1, h2, h3, h4⟩ := this
          exact ⟨r, n, el, zz, vs, h1, h2, fun e => by simp at e, h4⟩
        | arr k L v z =>
          simp only [RelB, Blk.frozen] at this ⊢
          cases hgb : (X.fr b').g b' with
          | none => rw [hgb] at this; exact this
          | some p =>
            obtain ⟨r, cap⟩ := p
            rw [hgb] at this
            obtain ⟨el, zz, vs, rest, h2, h3, h4⟩ := this
            exact ⟨el, zz, vs, rest, h2, fun e => by simp at e, h4⟩
    · simp only [Cx.fr, if_neg e] at hc
      exact he.relB (h.blk b' c hc) rfl (fun _ _ _ => rfl)
  · have f1 : ∃ c, X.hp b1 = some c := by
      by_cases e : b1 = b
      · subst e; simp only [Cx.fr, if_pos] at h1; cases hx : X.hp b1 <;> simp_all
      · simp only [Cx.fr, if_neg e] at h1; exact ⟨_, h1⟩
    have f2 : ∃ c, X.hp b2 = some c := by
      by_cases e : b2 = b
      · subst e; simp only [Cx.fr, if_pos] at h2; cases hx : X.hp b2 <;> simp_all
      · simp only [Cx.fr, if_neg e] at h2; exact ⟨_, h2⟩
    obtain ⟨c1, f1⟩ := f1
    obtain ⟨c2, f2⟩ := f2
    exact h.inj b1 b2 c1 c2 r n n' f1 f2 h3 h4
  · have f1 : ∃ c, X.hp b' = some c := by
      by_cases e : b' = b
      · subst e; simp only [Cx.fr, if_pos] at h1; cases hx : X.hp b' <;> simp_all
      · simp only [Cx.fr, if_neg e] at h1; exact ⟨_, h1⟩
    obtain ⟨c1, f1⟩ := f1
    exact h.sep b' c1 r n f1 h2

def Cx.frs (X : Cx S) : List Nat → Cx S
  | [] => X
  | b :: bs => (X.fr b).frs bs

theorem Ext.frs : ∀ (bs : List Nat) (X : Cx S), WF X → Ext X (X.frs bs) ∧ WF (X.frs bs) ∧ (X.frs bs).w = X.w ∧ (X.frs bs).M0 = X.M0 ∧ (X.frs bs).g = X.g
  | [], X, h => ⟨Ext.refl X, h, rfl, rfl, rfl⟩
  | b :: bs, X, h => by
    obtain ⟨h1, h2, h3, h4, h5⟩ := Ext.frs bs (X.fr b) (h.fr b)
    refine ⟨(Ext.fr b).trans h1 (fun r hr => (Ext.fr (X := X) b).mo rfl (h.fr b) hr), h2, h3.trans rfl, h4.trans rfl, h5.trans rfl⟩

/-- What freezing leaves in a heap. -/
def frzAt (hp : Nat → Option (Blk S)) (bs : List Nat) (b : Nat) : Option (Blk S) := if b ∈ bs then (hp b).map Blk.frozen else hp b

theorem Blk.frozen_frozen (c : Blk S) : c.frozen.frozen = c.frozen := by cases c <;> rfl

theorem frs_hp : ∀ (bs : List Nat) (X : Cx S) (b : Nat), (X.frs bs).hp b = frzAt X.hp bs b
  | [], X, b => by simp [Cx.frs, frzAt]
  | c :: bs, X, b => by
    rw [Cx.frs, frs_hp bs]
    simp only [frzAt, Cx.fr, List.mem_cons]
    by_cases e : b = c
    · subst e
      by_cases hb : b ∈ bs
      · simp only [hb, if_true, true_or, Option.map_map]
        congr 1; funext x; exact Blk.frozen_frozen x
      · simp [hb]
    · by_cases hb : b ∈ bs <;> simp [e, hb]

theorem lk_frz : ∀ (bs : List Nat) (hp : List (Nat × Blk S)) (b : Nat), lk b (frz hp bs) = frzAt (fun b => lk b hp) bs b
  | [], hp, b => by simp [frz, frzAt]
  | c :: bs, hp, b => by
    simp only [frz]
    have key : ∀ x : Blk S, lk c hp = some x → lk b (frz ((c, x.frozen) :: hp) bs) = frzAt (fun b => lk b hp) (c :: bs) b := by
      intro x hx
      rw [lk_frz bs]
      simp only [frzAt, lk_cons, List.mem_cons]
      by_cases e : b = c
      · subst e
        by_cases hb : b ∈ bs
        · simp [hb, hx, Blk.frozen_frozen]
        · simp [hb, hx]
      · by_cases hb : b ∈ bs <;> simp [e, hb]
    cases hc : lk c hp with
    | none =>
      rw [lk_frz bs]
      simp only [frzAt, List.mem_cons]
      by_cases e : b = c
      · subst e
        by_cases hb : b ∈ bs <;> simp [hb, hc]
      · by_cases hb : b ∈ bs <;> simp [e, hb]
    | some x =>
      cases x with
      | var cs z => exact key _ hc
      | arr k L v z => exact key _ hc

/-- The cells of a variable, or of elements, are others. -/
def Cx.st (X : Cx S) (b : Nat) (c : Blk S) (r : Nat) (a : Array Value) : Cx S :=
  { X with hp := fun b' => if b' = b then some c else X.hp b', w := X.w.setRow r a }

theorem Ext.st {b r n : Nat} {c c' : Blk S} (h : WF X) (hb : X.hp b = some c) (hz : c.fz = false) (hg : X.g b = some (r, n)) (a : Array Value) (hs : stepB X X b c c') (hz' : c'.fz = true → c.fz = true) :
    Ext X (X.st b c' r a) := by
  refine ⟨⟨rfl, rfl, rfl, by simp [Cx.st], fun r' hr hm => ?_⟩, fun r' hr => .inl ?_, fun b' c2 hc => ?_⟩
  · refine setRow_other _ _ _ _ (fun e => hm ?_)
    subst e
    exact ⟨b, c, n, hb, hz, hg⟩
  · rcases hr with hr | ⟨b', c2, n', h1, h2, h3⟩
    · exact .inl hr
    · by_cases e : b' = b
      · subst e; exact .inr ⟨b', c, n', hb, hz, h3⟩
      · simp only [Cx.st, if_neg e] at h1; exact .inr ⟨b', c2, n', h1, h2, h3⟩
  · by_cases e : b' = b
    · subst e
      rw [hb] at hc; cases hc
      refine ⟨c', by simp [Cx.st], ?_⟩
      cases c <;> cases c' <;> first | exact hs | (simp [stepB] at hs; done)
    · refine ⟨c2, by simp [Cx.st, e, hc], ?_⟩
      cases c2 <;> simp [stepB, Cx.st]

theorem WF.st {b r n : Nat} {c c' : Blk S} (h : WF X) (hb : X.hp b = some c) (hg : X.g b = some (r, n)) (a : Array Value) (he : Ext X (X.st b c' r a)) (hr : RelB (X.st b c' r a) b c') :
    WF (X.st b c' r a) := by
  refine h.upd he b c' (fun _ => rfl) (fun _ _ => rfl) rfl hr (fun b' c2 r' n' e h1 h2 => ?_) (fun r' n' h2 => .inr ⟨c, n', hb, h2⟩)
  refine setRow_other _ _ _ _ (fun e' => e ?_)
  subst e'
  exact h.inj b' b c2 c r' n' n h1 hb h2 hg

end Vm
end

section
namespace Vm
open Go
variable {S : Sig} {R : Type} {P : Program}

inductive RelPL (X : Cx S) : List (PV S) → List Value → Prop
  | nil : RelPL X [] []
  | cons {p v ps vs} : RelP X p v → RelPL X ps vs → RelPL X (p :: ps) (v :: vs)

structure EffOk (st : St S) (e : Eff S) : Prop where
  nx : st.nx ≤ e.nx
  same : ∀ b, b ∉ e.wr → ¬ (st.nx ≤ b ∧ b < e.nx) → lk b e.hp = lk b st.hp

/-- What is known of a heap behind an effect. -/
def After (st : St S) (e : Eff S) (X X' : Cx S) : Prop :=
  ∀ b, X'.hp b = if b ∈ e.wr ∨ (st.nx ≤ b ∧ b < e.nx) then lk b e.hp else X.hp b

structure Before (st : St S) (e : Eff S) (X : Cx S) : Prop where
  rd : ∀ b, b ∈ e.rd → X.hp b = lk b st.hp
  wr : ∀ b, b ∈ e.wr → X.hp b = lk b st.hp
  new : ∀ b, st.nx ≤ b → b < e.nx → X.hp b = none

def Knows (X : Cx S) (st : St S) (ts : List Nat) (a : Act) : Prop :=
  ∀ t, t ∈ ts → ∀ p, lk t st.tm = some p → RelP X p (a.tmps.getD t undef)

def OpTr (P : Program) (st : St S) (o : Oper) (e : Eff S) : Prop :=
  ∀ (X : Cx S) (a : Act) (next : Act → World → Prop) (Q : Exit → Act → World → Prop), WF X → Knows X st (tmpsOf o.op.operands.toList) a → Before st e X →
    (∀ X' v, Ext X X' → WF X' → X'.M0 = X.M0 → RelP X' e.val v → After st e X X' → next (a.put o.dst v) X'.w) → o.wp P a X.w next Q

def CallTr (P : Program) (f : FuncId) (args : List (PV S)) (st : St S) (e : Eff S) : Prop :=
  ∀ (X : Cx S) (vs : List Value), WF X → RelPL X args vs → Before st e X →
    Calls P f vs.toArray X.w fun en w' => ∃ X' v, en = .returned v ∧ X'.w = w' ∧ Ext X X' ∧ WF X' ∧ X'.M0 = X.M0 ∧ RelP X' e.val v ∧ After st e X X'

/-- A function that has a body. -/
def Bodied (P : Program) (f : FuncId) : Prop := ∃ fn c, P.funcs[f]? = some fn ∧ (fn.name == "runtime.NumGoroutine") = false ∧ fn.body = some c

def CallOk (P : Program) (f : FuncId) (g : CallOrc S R) : Prop :=
  ∀ args st K r, g args st K = some r → ∃ e, K e = some r ∧ EffOk st e ∧ CallTr P f args st e

structure OrcOk [Prog S] (P : Program) (O : Orc S R) : Prop where
  call : ∀ f g, lk f O.call = some g → Bodied P f ∧ CallOk P f g

/-! ### Values -/

theorem constPV_sound {X : Cx S} {v : Value} {p : PV S} (h : constPV v = some p) : RelP X p v := by
  unfold constPV at h
  split at h
  all_goals first | (obtain rfl := Option.some.inj h) | simp at h
  · exact ⟨.f _ _ (.int _ _), rfl⟩
  · exact ⟨.f _ _ (.bool _), rfl⟩
  · rename_i s
    have := RelF.str (S := S) (w := X.w) (M := X.M) s.data.toList
    simp only [Array.toArray_toList] at this
    exact ⟨.f _ _ this, rfl⟩
  · exact ⟨.f _ _ (.err none), rfl⟩
  · exact ⟨.nilsl none, rfl⟩
  · exact ⟨.f _ _ (.oth _ rfl), rfl⟩
  · exact ⟨.f _ _ (.oth _ rfl), rfl⟩

theorem rel_bool {X : Cx S} {t : Bool} {v : Value} (h : RelP X (.e (.sc (.f (.bool t)))) v) : v = .bool t := by
  have h : RelC X (.f (.bool t)) [v] := h.1
  cases h with | f _ _ h => cases h; rfl
theorem rel_int {X : Cx S} {k : IntKind} {n : Int} {v : Value} (h : RelP X (.e (.sc (.f (.int k n)))) v) : v = .int k n := by
  have h : RelC X (.f (.int k n)) [v] := h.1
  cases h with | f _ _ h => cases h; rfl
theorem rel_str {X : Cx S} {l : List UInt8} {v : Value} (h : RelP X (.e (.sc (.f (.str l)))) v) : v = .string ⟨l.toArray⟩ := by
  have h : RelC X (.f (.str l)) [v] := h.1
  cases h with | f _ _ h => cases h; rfl
theorem rel_err {X : Cx S} {e : Option Int} {v : Value} (h : RelP X (.e (.sc (.f (.err e)))) v) : (e = none ∧ v = .nilIface) ∨ (∃ n t u, e = some n ∧ v = .iface t u) := by
  have h : RelC X (.f (.err e)) [v] := h.1
  cases h with | f _ _ h =>
    cases h with
    | err =>
      cases e with
      | none => exact .inl ⟨rfl, rfl⟩
      | some n => exact .inr ⟨n, _, _, rfl, rfl⟩
    | erro t u => exact .inr ⟨_, t, u, rfl, rfl⟩

theorem ev_sound {X : Cx S} {st : St S} {x : Operand} {p : PV S} {a : Act} {ts : List Nat} (h : ev st x = some p) (hk : Knows X st ts a) (hx : ∀ t, x = .tmp t → t ∈ ts) : RelP X p (a.eval x) := by
  cases x with
  | tmp t => exact hk t (hx t rfl) p h
  | const v => exact constPV_sound h
  | global g => simp [ev] at h
  | func f =>
    simp only [ev, Option.some.injEq] at h
    subst h
    exact ⟨RelC.clo f [] [] trivial, rfl⟩

theorem evs_sound {X : Cx S} {st : St S} {a : Act} {ts : List Nat} (hk : Knows X st ts a) : ∀ {xs : List Operand} {ps : List (PV S)}, evs st xs = some ps → (∀ t, t ∈ tmpsOf xs → t ∈ ts) →
    RelPL X ps (xs.map a.eval)
  | [], ps, h, _ => by simp [evs] at h; subst h; exact .nil
  | x :: xs, ps, h, ht => by
    simp only [evs] at h
    cases h1 : ev st x with
    | none => simp [h1] at h
    | some p =>
      cases h2 : evs st xs with
      | none => simp [h1, h2] at h
      | some qs =>
        simp only [h1, h2, Option.some.injEq] at h
        subst h
        have hxs : ∀ t, t ∈ tmpsOf xs → t ∈ ts := fun t h => ht t (by cases x <;> simp [tmpsOf, h])
        exact .cons (ev_sound h1 hk (fun t e => ht t (by subst e; simp [tmpsOf]))) (evs_sound hk h2 hxs)

theorem mem_tmps1 {x : Operand} {xs : List Operand} (hx : x ∈ xs) : ∀ t, x = .tmp t → t ∈ tmpsOf xs := by
  intro t e
  induction xs with
  | nil => simp at hx
  | cons y ys ih =>
    rcases List.mem_cons.1 hx with h | h
    · subst h; subst e; simp [tmpsOf]
    · cases y <;> simp [tmpsOf, ih h]

/-! ### Operations that only compute -/

theorem OpTr.val {st : St S} {o : Oper} {p : PV S} {rd : List Nat}
    (h : ∀ (X : Cx S) (a : Act), WF X → Knows X st (tmpsOf o.op.operands.toList) a → (∀ b, b ∈ rd → X.hp b = lk b st.hp) → ∃ v, (execOp a.eval o).run P X.w = .ok (.value v) X.w ∧ RelP X p v) :
    EffOk st (⟨p, rd, [], st.hp, st.nx⟩ : Eff S) ∧ OpTr P st o ⟨p, rd, [], st.hp, st.nx⟩ := by
  refine ⟨⟨Nat.le_refl _, fun _ _ _ => rfl⟩, fun X a next Q hX hk hb hn => ?_⟩
  obtain ⟨v, h1, h2⟩ := h X a hX hk hb.rd
  unfold Oper.wp
  rw [h1]
  exact hn X v (Ext.refl X) hX rfl h2 (fun b => by rw [if_neg (by simp only [List.not_mem_nil, false_or]; omega)])

section ops
variable [Prog S] {st : St S} {o : Oper} {K : Eff S → Option R} {r : R}

theorem op_move {x : Operand} (ho : o.op = .move x ∨ o.op = .assign x) {p : PV S} (hp : ev st x = some p) :
    EffOk st (⟨p, [], [], st.hp, st.nx⟩ : Eff S) ∧ OpTr P st o ⟨p, [], [], st.hp, st.nx⟩ := by
  refine OpTr.val fun X a hX hk _ => ?_
  refine ⟨a.eval x, ?_, ev_sound hp hk (fun t e => ?_)⟩
  · rcases ho with ho | ho <;> simp [execOp, ho]
  · subst e; rcases ho with ho | ho <;> (rw [ho]; exact List.mem_cons_self ..)

theorem op_pick {c x y : Operand} (ho : o.op = .pick c x y) {t : Bool} (hc : ev st c = some (.e (.sc (.f (.bool t))))) {p : PV S} (hp : ev st (if t then x else y) = some p) :
    EffOk st (⟨p, [], [], st.hp, st.nx⟩ : Eff S) ∧ OpTr P st o ⟨p, [], [], st.hp, st.nx⟩ := by
  refine OpTr.val fun X a hX hk _ => ⟨a.eval (if t then x else y), ?_, ev_sound hp hk (fun t' e => ?_)⟩
  · have := ev_sound hc hk (X := X) (fun t' e => by rw [ho]; subst e; simp [Op.operands, tmpsOf])
    have hb := rel_bool this
    cases t <;> simp [execOp, ho, hb, asBool]
  · rw [ho]
    refine mem_tmps1 ?_ t' e
    cases t <;> simp [Op.operands]

theorem op_extract {x : Operand} {i : Nat} (ho : o.op = .extract x i) {ps : List (PE S)} (hx : ev st x = some (.tu ps)) {p : PE S} (hp : ps[i]? = some p) :
    EffOk st (⟨.e p, [], [], st.hp, st.nx⟩ : Eff S) ∧ OpTr P st o ⟨.e p, [], [], st.hp, st.nx⟩ := by
  refine OpTr.val fun X a hX hk _ => ?_
  have := ev_sound hx hk (X := X) (fun t' e => by rw [ho]; subst e; simp [Op.operands, tmpsOf])
  obtain ⟨vs, h1, h2⟩ := this
  have key : ∀ (ps : List (PE S)) (vs : List Value) (i : Nat), RelEL X ps vs → ps[i]? = some p → ∃ v, vs[i]? = some v ∧ RelE X p v := by
    intro ps vs i h
    induction h generalizing i with
    | nil => intro h; simp at h
    | cons q qs v vs h1 _ ih =>
      intro h
      cases i with
      | zero => simp at h; subst h; exact ⟨v, rfl, h1⟩
      | succ i => simpa using ih i (by simpa using h)
  obtain ⟨v, h3, h4⟩ := key ps vs i h2 hp
  exact ⟨v, by simp [execOp, ho, h1, Instr.extract, h3], h4⟩

end ops
end Vm
end

section
namespace Vm
open Go
variable {S : Sig} {R : Type} {P : Program}

def plainD : TypeDesc → Bool
  | .struct _ => false
  | .array _ _ => false
  | _ => true

def scOk (P : Program) (t : TypeId) : Sh S.K → Prop
  | .int k => P.underlying t = some (.int k)
  | .str => P.underlying t = some .string
  | .bool => P.underlying t = some .bool
  | .err => ∃ ms, P.underlying t = some (.interface ms)
  | _ => True

def LayOk [Prog S] (P : Program) (t : TypeId) : Lay S → Prop
  | .sc s => (zero1 s : Cell S).isSc = true ∧ ∃ i d z, P.info? t = some i ∧ i.size = 1 ∧ P.underlying t = some d ∧ plainD d = true ∧ i.zero = some z ∧ z.oneCell' = true ∧ (∀ X : Cx S, RelC X (zero1 s) [z]) ∧ scOk (S := S) P t s
  | .st shs offs w => ∃ i fs zs, fs.size = offs.length ∧ P.info? t = some i ∧ i.size = w ∧ P.underlying t = some (.struct fs) ∧ i.zero = some (.agg (List.toArray zs)) ∧ zs.length = w ∧ (∀ X : Cx S, RelCs X (shs.map zero1) zs) ∧
      (∀ j off n, Vm.fieldAt offs w j = some (off, n) → ∃ f fi, fs[j]? = some f ∧ f.offset = off ∧ P.info? f.type = some fi ∧ fi.size = n ∧ n ≠ 0)
  | .ar k n => ∃ i e ei zs, P.info? t = some i ∧ i.size = n * S.es k ∧ P.underlying t = some (.array n e) ∧ P.info? e = some ei ∧ ei.size = S.es k ∧ S.es k ≠ 0 ∧ i.zero = some (.agg (List.toArray zs)) ∧ zs.length = n * S.es k ∧
      (∀ X : Cx S, RelCs X [zero1 (.arr k n)] zs) ∧ ∃ d, P.underlying e = some d ∧ plainD d = !(Prog.aggK k)
  | .sl k => ∃ i e ei ze, P.info? t = some i ∧ i.size = 1 ∧ P.underlying t = some (.slice e) ∧ P.info? e = some ei ∧ ei.size = S.es k ∧ S.es k ≠ 0 ∧ ei.zero = some ze ∧ ze.cells.size = S.es k ∧ (∀ (w : World) (M : Nat → Prop), RelFs w M (enc k (Zeros.zero k)) ze.cells.toList) ∧
      ei.bytes * Prog.lim k ≤ 2 ^ 46 ∧ Prog.lim k ≤ 2 ^ 46 ∧ i.zero = some (.slice none 0 0)
  | .none => True

class TabOk [Prog S] (P : Program) : Prop where
  ok : ∀ t, LayOk P t (Tab.at (Prog.tab : Tab S) t)
  mixed : P.follows .mixedOrders = true
  byte : ∀ x : S.Ty Prog.byte, enc Prog.byte x = [.int .u8 (Prog.toB x)]
  byteOf : ∀ n, Prog.toB (Prog.ofB (S := S) n) = n
  byteEs : S.es Prog.byte = 1
  byteEl : ∀ t e, Tab.at (Prog.tab : Tab S) t = .sl Prog.byte → P.underlying t = some (.slice e) → P.underlying e = some (.int .u8)
  eqT : ∀ t q, lk t (Prog.eqT (S := S)) = some q → P.eqGuardType P.depth t = false ∧ ∀ (X : Cx S) (xs ys : List (Cell S)) (b : Bool) (us vs : List Value) (w : World), q xs ys = some b → RelCs X xs us → RelCs X ys vs →
    (Op.equalIn 10000 t (.agg us.toArray) (.agg vs.toArray)).run P w = .ok b w
  errT : P.underlying S.errT = some (.int .i64)
  fts : ∀ (t i : Nat) (ft : TypeId), (lk t (Prog.fts S)).bind (·[i]?) = some ft → ∃ (fs : Array Field) (f : Field), P.underlying t = some (.struct fs) ∧ fs[i]? = some f ∧ f.type = ft

theorem run_typeInfo {t : TypeId} {i : TypeInfo} (h : P.info? t = some i) (w : World) : (typeInfo t).run P w = .ok i w := by
  simp [typeInfo, h]

theorem run_sizeOf' {t : TypeId} {i : TypeInfo} (h : P.info? t = some i) (w : World) : (Go.sizeOf t).run P w = .ok i.size w := by
  simp [Go.sizeOf, run_typeInfo h]

theorem run_zeroValue' {t : TypeId} {i : TypeInfo} {z : Value} (h : P.info? t = some i) (hz : i.zero = some z) (w : World) : (zeroValue t).run P w = .ok z w := by
  simp [zeroValue, run_typeInfo h, hz]

theorem run_isAgg' {t : TypeId} {d : TypeDesc} (h : P.underlying t = some d) (w : World) : (isAgg t).run P w = .ok (!plainD d) w := by
  cases d <;> simp [isAgg, run_underlying h, plainD]

theorem one_cells {z : Value} (h : z.oneCell' = true) : z.cells = #[z] := by cases z <;> first | rfl | simp [Value.oneCell'] at h

theorem LayOk.size [Prog S] {t : TypeId} {l : Lay S} (h : LayOk P t l) (hn : l ≠ .none) : ∃ i, P.info? t = some i ∧ i.size = l.width := by
  cases l with
  | sc s => obtain ⟨_, i, d, z, h1, h2, _⟩ := h; exact ⟨i, h1, h2⟩
  | st shs offs w => obtain ⟨i, fs, zs, h00, h1, h2, _⟩ := h; exact ⟨i, h1, h2⟩
  | ar k n => obtain ⟨i, e, ei, zs, h1, h2, _⟩ := h; exact ⟨i, h1, h2⟩
  | sl k => obtain ⟨i, e, ei, ze, h1, h2, _⟩ := h; exact ⟨i, h1, h2⟩
  | none => exact absurd rfl hn

theorem LayOk.agg [Prog S] {t : TypeId} {l : Lay S} (h : LayOk P t l) (hn : l ≠ .none) (w : World) : (isAgg t).run P w = .ok l.agg w := by
  cases l with
  | sc s => obtain ⟨_, i, d, z, h1, h2, h3, h4, _⟩ := h; rw [run_isAgg' h3, h4]; rfl
  | st shs offs w => obtain ⟨i, fs, zs, h00, h1, h2, h3, _⟩ := h; rw [run_isAgg' h3]; rfl
  | ar k n => obtain ⟨i, e, ei, zs, h1, h2, h3, _⟩ := h; rw [run_isAgg' h3]; rfl
  | sl k => obtain ⟨i, e, ei, ze, h1, h2, h3, _⟩ := h; rw [run_isAgg' h3]; rfl
  | none => exact absurd rfl hn

theorem add_addr (b o j : Nat) : (⟨b, o, none⟩ : Addr).add j = ⟨b, o + j, none⟩ := by unfold Addr.add; split <;> simp_all

theorem cellsAt.heap {w : World} {r o : Nat} {a us b : List Value} {el : TypeId} {zz : Nat × Nat} (h : w.heap[r]? = some (.cells (a ++ us ++ b).toArray el zz)) (ho : a.length = o) : cellsAt w r o us := by
  intro j v hj
  have hl : j < us.length := by
    rcases Nat.lt_or_ge j us.length with h | h
    · exact h
    · rw [List.getElem?_eq_none h] at hj; cases hj
  simp only [World.cell?, h, Option.isSome_none, Bool.false_eq_true, if_false]
  simp only [List.getElem?_toArray]
  rw [List.append_assoc, List.getElem?_append_right (by omega), List.getElem?_append_left (by omega)]
  rw [← hj]; congr 1; omega

theorem cellsAt.take {w : World} {r o : Nat} {a b : List Value} (h : cellsAt w r o (a ++ b)) : cellsAt w r o a := by
  intro j v hj
  refine h j v ?_
  have hl : j < a.length := by
    rcases Nat.lt_or_ge j a.length with h | h
    · exact h
    · rw [List.getElem?_eq_none h] at hj; cases hj
  rw [List.getElem?_append_left hl]; exact hj

theorem cellsAt.drop {w : World} {r o : Nat} {a b : List Value} (h : cellsAt w r o (a ++ b)) : cellsAt w r (o + a.length) b := by
  intro j v hj
  have := h (a.length + j) v (by rw [List.getElem?_append_right (by omega)]; rw [← hj]; congr 1; omega)
  rw [← this]; congr 2; omega

/-- What a variable of a type is read as. -/
def valOf (agg : Bool) (us : List Value) : Value := if agg then .agg us.toArray else us.getD 0 undef

theorem run_loadVar' [Prog S] {t : TypeId} {l : Lay S} (h : LayOk P t l) (hn : l ≠ .none) {w : World} {r o : Nat} {us : List Value} (hu : us.length = l.width) (hc : cellsAt w r o us) :
    (loadVar t ⟨r, o, none⟩).run P w = .ok (valOf l.agg us) w := by
  obtain ⟨i, hi, hs⟩ := h.size hn
  unfold loadVar
  simp only [Sem.run_bind, h.agg hn, Result.andThen_ok]
  cases ha : l.agg with
  | true =>
    simp only [if_true, Sem.run_bind, run_sizeOf' hi, Result.andThen_ok, hs, ← hu, valOf]
    rw [run_loadCells_list w ⟨r, o, none⟩ us (fun j v hj => by rw [add_addr]; exact hc j v hj)]
    rfl
  | false =>
    have h1 : us.length = 1 := by
      rw [hu]; cases l <;> simp_all [Lay.agg, Lay.width]
    obtain ⟨v, rfl⟩ : ∃ v, us = [v] := by
      cases us with
      | nil => simp at h1
      | cons v us => cases us with
        | nil => exact ⟨v, rfl⟩
        | cons => simp at h1
    have := hc 0 v rfl
    simp only [Nat.add_zero] at this
    simp [this, valOf]

theorem RelC.width1 {X : Cx S} {c : Cell S} {us : List Value} (h : RelC X c us) (hs : c.isSc = true) : us.length = 1 := by
  cases h with
  | f c us h => cases h <;> first | rfl | simp [Cell.isSc] at hs
  | _ => rfl

theorem mkPE_rel {X : Cx S} {agg : Bool} {cs : List (Cell S)} {p : PE S} {us : List Value} (h : mkPE agg cs = some p) (hc : RelCs X cs us) : RelE X p (valOf agg us) := by
  unfold mkPE at h
  split at h
  · obtain rfl := Option.some.inj h; exact ⟨us, rfl, hc⟩
  · rename_i c
    cases hs : c.isSc with
    | false => simp [hs] at h
    | true =>
      simp only [hs, cond_true] at h
      obtain rfl := Option.some.inj h
      cases hc with
      | cons c cs us vs h1 h2 h3 =>
        cases h3
        have := h2.width1 hs
        obtain ⟨v, rfl⟩ : ∃ v, us = [v] := by
          cases us with
          | nil => simp at this
          | cons v us => cases us with
            | nil => exact ⟨v, rfl⟩
            | cons => simp at this
        exact ⟨h2, hs⟩
  · simp at h

end Vm
end

section
namespace Vm
open Go
variable {S : Sig} {R : Type} {P : Program}

/-- A draw. -/
def Cx.dr (X : Cx S) : Cx S := { X with w := X.w.drew }

theorem Ext.dr (X : Cx S) : Ext X X.dr := by
  refine ⟨⟨rfl, rfl, rfl, Nat.le_refl _, fun _ _ _ => rfl⟩, fun r hr => .inl hr, fun b c h => ⟨c, h, ?_⟩⟩
  cases c <;> simp [stepB, Cx.dr]

theorem WF.dr {X : Cx S} (h : WF X) : WF X.dr :=
  ⟨fun b c hc => (Ext.dr X).relB (h.blk b c hc) rfl (fun _ _ _ => rfl), fun b b' c c' r n n' => h.inj b b' c c' r n n', h.m0, fun b c r n => h.sep b c r n, (Ext.dr X).gl h.gl⟩

theorem Ext.comp {X Y Z : Cx S} (h : Ext X Y) (k : Ext Y Z) (hm : Y.M0 = X.M0) (wf : WF Y) : Ext X Z := h.trans k (fun r hr => h.mo hm wf hr)

section ops
variable [Prog S] {st : St S} {o : Oper}

theorem OpTr.alloc {p : PV S} {rd : List Nat} {c : Blk S}
    (h : ∀ (X : Cx S) (a : Act), WF X → Knows X st (tmpsOf o.op.operands.toList) a → (∀ b, b ∈ rd → X.hp b = lk b st.hp) → X.hp st.nx = none →
      ∃ Y v ob cap, Ext X Y ∧ WF Y ∧ Y.hp = X.hp ∧ Y.M0 = X.M0 ∧ (execOp a.eval o).run P X.w = .ok (.value v) (Y.w.alloc ob) ∧ RelB (Y.al st.nx c ob cap) st.nx c ∧ RelP (Y.al st.nx c ob cap) p v) :
    EffOk st (⟨p, rd, [], (st.nx, c) :: st.hp, st.nx + 1⟩ : Eff S) ∧ OpTr P st o ⟨p, rd, [], (st.nx, c) :: st.hp, st.nx + 1⟩ := by
  refine ⟨⟨Nat.le_succ _, fun b _ hb => ?_⟩, fun X a next Q hX hk hb hn => ?_⟩
  · rw [lk_cons, if_neg (fun e => hb ⟨by omega, by simp only; omega⟩)]
  · have hnew := hb.new st.nx (Nat.le_refl _) (Nat.lt_succ_self _)
    obtain ⟨Y, v, ob, cap, h1, h2, h3, h4, h5, h6, h7⟩ := h X a hX hk hb.rd hnew
    have hY : Y.hp st.nx = none := by rw [h3]; exact hnew
    unfold Oper.wp
    rw [h5]
    refine hn (Y.al st.nx c ob cap) v (h1.comp (Ext.al hY c ob cap) h4 h2) (h2.al hY c ob cap h6) h4 h7 (fun b => ?_)
    simp only [List.not_mem_nil, false_or, Cx.al, lk_cons, h3]
    by_cases e : b = st.nx
    · subst e; rw [if_pos rfl, if_pos ⟨Nat.le_refl _, Nat.lt_succ_self _⟩, if_pos rfl]
    · rw [if_neg e, if_neg (by omega)]

theorem heap_al (Y : Cx S) (b : Nat) (c : Blk S) (ob : Obj) (cap : Nat) : (Y.al b c ob cap).w.heap[Y.w.heap.size]? = some ob := by
  show (Y.w.heap.push ob)[Y.w.heap.size]? = some ob
  simp

theorem Cell.width_sc {c : Cell S} (h : c.isSc = true) : c.width = 1 := by
  cases c <;> first | rfl | skip
  rename_i fc
  cases fc <;> first | rfl | simp [Cell.isSc] at h

theorem LayOk.zero {t : TypeId} {l : Lay S} (h : LayOk P t l) (hn : l ≠ .none) : ∃ i z zs, P.info? t = some i ∧ i.zero = some z ∧ z.cells = List.toArray zs ∧ ∀ X : Cx S, RelCs X (l.shs.map zero1) zs := by
  cases l with
  | sc s =>
    obtain ⟨h0, i, d, z, h1, h2, h3, h4, h5, h6, h7, _⟩ := h
    refine ⟨i, z, [z], h1, h5, one_cells h6, fun X => ?_⟩
    exact .cons _ _ [z] [] (Cell.width_sc h0).symm (h7 X) .nil
  | st shs offs w => obtain ⟨i, fs, zs, h00, h1, h2, h3, h4, h5, h6, _⟩ := h; exact ⟨i, _, zs, h1, h4, rfl, h6⟩
  | ar k n => obtain ⟨i, e, ei, zs, h1, h2, h3, h4, h5, h6, h7, h8, h9, _⟩ := h; exact ⟨i, _, zs, h1, h7, rfl, h9⟩
  | sl k => obtain ⟨i, e, ei, ze, h1, h2, h3, h4, h5, h6, h7, h7', h8, h9, h9', h10⟩ := h; exact ⟨i, _, [.slice none 0 0], h1, h10, rfl, fun X => .cons _ _ [_] [] rfl (.nilsl none) .nil⟩
  | none => exact absurd rfl hn

theorem op_alloc [TabOk (S := S) P] {t : TypeId} (ho : o.op = .alloc t) (hn : Tab.at (Prog.tab : Tab S) t ≠ .none) :
    EffOk st (⟨.e (.sc (.ptr st.nx 0)), [], [], (st.nx, .var ((Tab.at (Prog.tab : Tab S) t).shs.map zero1) false) :: st.hp, st.nx + 1⟩ : Eff S) ∧
    OpTr P st o ⟨.e (.sc (.ptr st.nx 0)), [], [], (st.nx, .var ((Tab.at (Prog.tab : Tab S) t).shs.map zero1) false) :: st.hp, st.nx + 1⟩ := by
  obtain ⟨i, z, zs, h1, h2, h3, h4⟩ := (TabOk.ok (S := S) (P := P) t).zero hn
  refine OpTr.alloc fun X a hX hk _ hnew => ⟨X, .pointer (some ⟨X.w.heap.size, 0, none⟩), .cells zs.toArray t, 0, Ext.refl X, hX, rfl, rfl, ?_, ?_, ?_⟩
  · simp [execOp, ho, Instr.alloc, run_zeroValue' h1 h2, newVar, newRow, h3]
  · exact ⟨X.w.heap.size, 0, t, (0, 0), zs, by simp [Cx.al], heap_al _ _ _ _ _, fun _ => rfl, h4 _⟩
  · exact ⟨.ptr _ _ _ 0 _ false (if_pos rfl) (if_pos rfl), rfl⟩

theorem RelE.cells {X : Cx S} {p : PE S} {v : Value} (h : RelE X p v) : ∃ vs, v.cells = List.toArray vs ∧ RelCs X p.cells vs := by
  cases p with
  | sc c =>
    obtain ⟨h, hs⟩ := h
    exact ⟨[v], one_cells (h.one v (by simp)), .cons c [] [v] [] (Cell.width_sc hs).symm h .nil⟩
  | ag cs =>
    obtain ⟨vs, rfl, h2⟩ := h
    exact ⟨vs, rfl, h2⟩

theorem op_box {t : TypeId} {x : Operand} (ho : o.op = .box t x) {p : PE S} (hp : ev st x = some (.e p)) :
    EffOk st (⟨.e (.sc (.ptr st.nx 0)), [], [], (st.nx, .var p.cells false) :: st.hp, st.nx + 1⟩ : Eff S) ∧
    OpTr P st o ⟨.e (.sc (.ptr st.nx 0)), [], [], (st.nx, .var p.cells false) :: st.hp, st.nx + 1⟩ := by
  refine OpTr.alloc fun X a hX hk _ hnew => ?_
  have hr : RelE X p (a.eval x) := ev_sound hp hk (fun t' e => by rw [ho]; subst e; simp [Op.operands, tmpsOf])
  obtain ⟨vs, h1, h2⟩ := hr.cells
  refine ⟨X, .pointer (some ⟨X.w.heap.size, 0, none⟩), .cells vs.toArray t, 0, Ext.refl X, hX, rfl, rfl, ?_, ?_, ?_⟩
  · simp [execOp, ho, Instr.box, newVar, newRow, h1]
  · exact ⟨X.w.heap.size, 0, t, (0, 0), vs, if_pos rfl, heap_al _ _ _ _ _, fun _ => rfl, (Ext.al hnew _ _ _).relCs h2⟩
  · exact ⟨.ptr _ _ _ 0 _ false (if_pos rfl) (if_pos rfl), rfl⟩

/-! Loads -/

/-- An address at which cells lie. -/
def CellsAt (X : Cx S) (c : Cell S) (cs : List (Cell S)) (v : Value) : Prop := ∃ r o us, v = .pointer (some ⟨r, o, none⟩) ∧ cellsAt X.w r o us ∧ RelCs X cs us

theorem run_load_at {X : Cx S} {t : TypeId} {l : Lay S} (hl : LayOk P t l) (hn : l ≠ .none) {c : Cell S} {cs cs' : List (Cell S)} {v : Value} (h : CellsAt X c cs v) (ht : takeW cs l.width = some cs') {p : PE S} (hp : mkPE l.agg cs' = some p) :
    ∃ v', (Instr.loadAt t v).run P X.w = .ok v' X.w ∧ RelE X p v' := by
  obtain ⟨r, o, us, rfl, h2, h3⟩ := h
  obtain ⟨a, b, rfl, h5, h6⟩ := takeW_sound h3 ht
  refine ⟨valOf l.agg a, ?_, mkPE_rel hp h6⟩
  simp [Instr.loadAt, Instr.sureAddr, run_loadVar' hl hn h5 h2.take]

theorem CellsAt.seek {X : Cx S} {c d : Cell S} {cs cs' : List (Cell S)} {r o : Nat} {us : List Value} {n : Nat} (h2 : cellsAt X.w r o us) (h3 : RelCs X cs us) (hs : Vm.seek cs n = some cs') :
    CellsAt X d cs' (.pointer (some ⟨r, o + n, none⟩)) := by
  obtain ⟨a, b, rfl, h5, h6⟩ := seek_sound h3 hs
  subst h5
  exact ⟨r, o + a.length, b, rfl, h2.drop, h6⟩

theorem cells_var {X : Cx S} {b : Nat} {cs : List (Cell S)} {z : Bool} {r n : Nat} (hX : WF X) (hb : X.hp b = some (.var cs z)) (hg : X.g b = some (r, n)) :
    ∃ el zz vs, X.w.heap[r]? = some (.cells (List.toArray vs) el zz) ∧ (z = false → zz = (0, 0)) ∧ RelCs X cs vs ∧ cellsAt X.w r 0 vs := by
  obtain ⟨r', n', el, zz, vs, h1, h2, h3, h4⟩ := hX.blk b _ hb
  rw [hg] at h1; cases h1
  exact ⟨el, zz, vs, h2, h3, h4, cellsAt.heap (a := []) (b := []) (by simpa using h2) rfl⟩

theorem cells_arr {X : Cx S} {b : Nat} {k : S.K} {L : List (S.Ty k)} {v : Nat} {z : Bool} {r n : Nat} (hX : WF X) (hb : X.hp b = some (.arr k L v z)) (hg : X.g b = some (r, n)) {i : Nat} {x : S.Ty k} (hi : L[i]? = some x) :
    ∃ us, cellsAt X.w r (i * S.es k) us ∧ RelCs X ((enc k x).map .f) us := by
  have := hX.blk b _ hb
  simp only [RelB, hg] at this
  obtain ⟨el, zz, vs, rest, h2, h3, h4, h5, h6⟩ := this
  obtain ⟨p, us, q, rfl, e2, e3, e4⟩ := h4.get i x hi
  refine ⟨us, cellsAt.heap (a := p) (b := q ++ rest) (by simpa [List.append_assoc] using h2) e2, e4.toC⟩

theorem op_load [TabOk (S := S) P] {t : TypeId} {x : Operand} (ho : o.op = .load t x) {c : Cell S} (hx : ev st x = some (.e (.sc c))) {R : Type} {K : PV S → List Nat → Option R} {r : R}
    (h : loadK st (Tab.at (Prog.tab : Tab S) t) c K = some r) :
    ∃ p rd, K p rd = some r ∧ EffOk st (⟨p, rd, [], st.hp, st.nx⟩ : Eff S) ∧ OpTr P st o ⟨p, rd, [], st.hp, st.nx⟩ := by
  have hl := TabOk.ok (S := S) (P := P) t
  generalize Tab.at (Prog.tab : Tab S) t = l at h hl
  have hev : ∀ (X : Cx S) (a : Act), Knows X st (tmpsOf o.op.operands.toList) a → RelE X (.sc c) (a.eval x) := fun X a hk => ev_sound hx hk (fun t' e => by rw [ho]; subst e; simp [Op.operands, tmpsOf])
  have fin : ∀ (p : PE S) (rd : List Nat) (cs cs' : List (Cell S)), l ≠ .none → takeW cs l.width = some cs' → mkPE l.agg cs' = some p →
      (∀ (X : Cx S) (v : Value), WF X → RelC X c [v] → (∀ b, b ∈ rd → X.hp b = lk b st.hp) → CellsAt X c cs v) →
      EffOk st (⟨.e p, rd, [], st.hp, st.nx⟩ : Eff S) ∧ OpTr P st o ⟨.e p, rd, [], st.hp, st.nx⟩ := by
    intro p rd cs cs' hn h1 h2 h3
    refine OpTr.val fun X a hX hk hrd => ?_
    obtain ⟨v', h4, h5⟩ := run_load_at hl hn (h3 X _ hX (hev X a hk).1 hrd) h1 h2
    exact ⟨v', by simp [execOp, ho, h4], h5⟩
  have hnone : ∀ {cs cs' : List (Cell S)} {p : PE S}, takeW cs l.width = some cs' → mkPE l.agg cs' = some p → l ≠ .none := by
    intro cs cs' p h1 h2 e
    subst e
    simp only [Lay.width, Lay.agg] at h1 h2
    have : cs' = [] := by
      cases cs <;> simp [takeW] at h1 <;> exact h1
    subst this
    simp [mkPE] at h2
  unfold loadK at h
  split at h
  · -- a variable
    rename_i b off
    split at h <;> try (simp at h; done)
    rename_i cs z hlk
    split at h <;> try (simp at h; done)
    rename_i cs1 hs
    split at h <;> try (simp at h; done)
    rename_i cs2 ht
    split at h <;> try (simp at h; done)
    rename_i p hp
    refine ⟨_, _, h, fin p [b] cs1 cs2 (hnone ht hp) ht hp fun X v hX hc hrd => ?_⟩
    have hb : X.hp b = some (.var cs z) := (hrd b (by simp)).trans hlk
    cases hc with
    | ptr _ _ r n cs' z' h1 h2 =>
      obtain ⟨el, zz, vs, e1, e2, e3, e4⟩ := cells_var hX hb h1
      have := CellsAt.seek (c := .nilsl) (d := Cell.ptr b off) e4 e3 hs
      simpa using this
  · -- frozen cells
    rename_i cs
    split at h <;> try (simp at h; done)
    rename_i cs2 ht
    split at h <;> try (simp at h; done)
    rename_i p hp
    refine ⟨_, _, h, fin p [] _ cs2 (hnone ht hp) ht hp fun X v hX hc hrd => ?_⟩
    cases hc with
    | fptr _ r o vs h1 h2 h3 h4 => exact ⟨r, o, vs, rfl, h3, h4.toC⟩
  · -- an element
    rename_i b v k i sub
    split at h <;> try (simp at h; done)
    rename_i k' L v' z hlk
    split at h <;> try (simp at h; done)
    rename_i hk
    cases hv : Nat.beq v v' with
    | false => simp [hv] at h
    | true =>
      simp only [hv, cond_true] at h
      have hv := Nat.eq_of_beq_eq_true hv
      split at h <;> try (simp at h; done)
      rename_i y hy
      split at h <;> try (simp at h; done)
      rename_i cs1 hs
      split at h <;> try (simp at h; done)
      rename_i cs2 ht
      split at h <;> try (simp at h; done)
      rename_i p hp
      refine ⟨_, _, h, fin p [b] cs1 cs2 (hnone ht hp) ht hp fun X w hX hc hrd => ?_⟩
      have hb : X.hp b = some (.arr k' L v' z) := (hrd b (by simp)).trans hlk
      cases hc with
      | eptr _ _ _ _ _ k2 L2 v2 z2 r p0 h1 h2 h3 =>
        rw [hb] at h1; cases h1
        obtain ⟨e1, e2, ⟨n, e3⟩, rfl⟩ := h3 hv
        obtain ⟨us, e4, e5⟩ := cells_arr hX hb e3 hy
        subst hk
        exact CellsAt.seek (c := .nilsl) e4 e5 hs
  · -- an element of an array of a variable's
    rename_i b off k i
    split at h <;> try (simp at h; done)
    rename_i cs z hlk
    split at h <;> try (simp at h; done)
    rename_i k' n' L rest hs
    split at h <;> try (simp at h; done)
    rename_i hkk
    subst hkk
    split at h <;> try (simp at h; done)
    rename_i y hy
    split at h <;> try (simp at h; done)
    rename_i cs2 ht
    split at h <;> try (simp at h; done)
    rename_i p hp
    refine ⟨_, _, h, fin p [b] _ cs2 (hnone ht hp) ht hp fun X v hX hc hrd => ?_⟩
    have hb : X.hp b = some (.var cs z) := (hrd b (by simp)).trans hlk
    cases hc with
    | aptr _ _ _ _ r n cs' z' h1 h2 =>
      obtain ⟨el, zz, vs, e1, e2, e3, e4⟩ := cells_var hX hb h1
      obtain ⟨a, q, rfl, e5, e6⟩ := seek_sound e3 hs
      cases e6 with
      | cons _ _ us vs f1 f2 f3 =>
        cases f2 with
        | f _ _ f2 =>
          cases f2 with
          | arr _ _ _ _ f4 f5 =>
            obtain ⟨p', us', q', rfl, g2, g3, g4⟩ := f5.get i y hy
            refine ⟨r, off + i * S.es k', us', rfl, ?_, g4.toC⟩
            subst e5
            rw [← g2]
            have := (e4.drop (a := a)).take (a := p' ++ us' ++ q')
            rw [List.append_assoc] at this
            have := this.drop.take
            simpa using this
  · simp at h

end ops
end Vm
end

section
namespace Vm
open Go
variable {S : Sig} {R : Type} {P : Program} [Prog S]

theorem has_false {b : Nat} : ∀ {l : List Nat}, has b l = false → b ∉ l
  | [], _ => by simp
  | c :: cs, h => by
    simp only [has, Bool.or_eq_false_iff] at h
    intro hm
    rcases List.mem_cons.1 hm with e | e
    · subst e; simp at h
    · exact has_false h.2 e

theorem not_M_of_frozen {X : Cx S} (hX : WF X) {b : Nat} {c : Blk S} {r n : Nat} (hb : X.hp b = some c) (hg : X.g b = some (r, n)) (hz : c.fz = true) : ¬ X.M r := by
  rintro (h | ⟨b', c', n', h1, h2, h3⟩)
  · exact hX.sep b c r n hb hg h
  · have := hX.inj b b' c c' r n n' hb h1 hg h3
    subst this
    rw [hb] at h1; cases h1
    rw [hz] at h2; cases h2

theorem g_lt {X : Cx S} (hX : WF X) {b : Nat} {c : Blk S} {r n : Nat} (hb : X.hp b = some c) (hg : X.g b = some (r, n)) : r < X.w.heap.size := by
  have := hX.blk b c hb
  cases c with
  | var cs z =>
    obtain ⟨r', n', el, zz, vs, h1, hw, _⟩ := this
    rw [hg] at h1; cases h1
    exact Array.getElem?_eq_some_iff.1 hw |>.1
  | arr k L v z =>
    simp only [RelB, hg] at this
    obtain ⟨el, zz, vs, rest, hw, _⟩ := this
    exact Array.getElem?_eq_some_iff.1 hw |>.1

theorem dec1_f {s : Sh S.K} {c : FC S} {d : D S.Ty s} (h : dec1 s c = some d) {X : Cx S} {us : List Value} (hr : RelC X (.f c) us) : RelF X.w X.M (enc1 s d) us := by
  rw [dec1_sound s c d h]
  cases hr with | f _ _ h => exact h

theorem enc1_width (s : Sh S.K) (d : D S.Ty s) : (enc1 s d).width = Sh.width S.es s := by cases s <;> rfl

/-- What is alive, and frozen, is data. -/
theorem dec1C_sound {X : Cx S} (hX : WF X) {hp : List (Nat × Blk S)} {s : Sh S.K} {c : Cell S} {d : D S.Ty s} (h : dec1C hp s c = some d) {us : List Value} (hr : RelC X c us)
    (hz : ∀ b, b ∈ lives [c] → ∃ x, lk b hp = some x ∧ X.hp b = some x.frozen) : RelF X.w X.M (enc1 s d) us := by
  unfold dec1C at h
  split at h
  · obtain rfl := Option.some.inj h
    cases hr with | nilsl a => exact .sl0 _ _ _
  · rename_i k b v
    split at h <;> try (simp at h; done)
    rename_i k' L v' z hlk
    cases hv : Nat.beq v v' with
    | false => simp [hv] at h
    | true =>
      have hv := Nat.eq_of_beq_eq_true hv
      subst hv
      simp only [Nat.beq_refl, cond_true] at h
      split at h <;> try (simp at h; done)
      rename_i hk
      subst hk
      obtain rfl := Option.some.inj h
      obtain ⟨x, hx1, hx2⟩ := hz b (by simp [lives])
      rw [hlk] at hx1; cases hx1
      cases hr with
      | live _ _ k2 L2 v2 z2 w h1 h2 h3 h4 =>
        rw [hx2] at h1
        simp only [Blk.frozen, Option.some.injEq, Blk.arr.injEq] at h1
        obtain ⟨rfl, hL, rfl, rfl⟩ := h1
        have hL := eq_of_heq hL
        subst hL
        have := h3 rfl
        unfold liveAt at this
        cases hg : X.g b with
        | none =>
          rw [hg] at this
          obtain ⟨rfl, a, rfl⟩ := this
          exact .sl0 _ _ _
        | some p =>
          obtain ⟨r, cap⟩ := p
          rw [hg] at this
          simp only at this
          subst this
          have hB := hX.blk b _ hx2
          simp only [Blk.frozen, RelB, hg] at hB
          obtain ⟨el, zz, vs, rest, e2, e3, e4, e5, e6⟩ := hB
          exact .sl _ _ r 0 cap vs (not_M_of_frozen hX hx2 hg rfl) (g_lt hX hx2 hg) e5 (cellsAt.heap (a := []) (b := rest) (by simpa using e2) rfl) e4
  · rename_i k b off k' lo hi
    split at h <;> try (simp at h; done)
    rename_i cs z hlk
    split at h <;> try (simp at h; done)
    rename_i k2 n2 L rest hs
    split at h <;> try (simp at h; done)
    rename_i hk
    split at h <;> try (simp at h; done)
    rename_i hk'
    subst hk; subst hk'
    cases hle : Nat.ble hi n2 with
    | false => simp [hle] at h
    | true =>
      have hle' := Nat.le_of_ble_eq_true hle
      simp only [hle, cond_true] at h
      obtain rfl := Option.some.inj h
      obtain ⟨x, hx1, hx2⟩ := hz b (by simp [lives])
      rw [hlk] at hx1; cases hx1
      cases hr with
      | asl _ _ _ _ _ r n cs' z' o c h1 h2 h3 h4 =>
        obtain ⟨el, zz, vs, e1, e2, e3, e4⟩ := cells_var hX hx2 h1
        obtain ⟨a, q, rfl, e5, e6⟩ := seek_sound e3 hs
        cases e6 with
        | cons _ _ us ws f1 f2 f3 =>
          cases f2 with
          | f _ _ f2 =>
            cases f2 with
            | arr _ _ _ _ f4 f5 =>
              have hlen : ((L.take hi).drop lo).length = hi - lo := by simp; omega
              by_cases hlt : lo < hi
              · have ho := h3 hlt
                have f6 := (f5.take hi).drop lo
                change RelF X.w X.M (.sl _ ((L.take hi).drop lo)) _
                rw [← hlen]
                refine .sl _ _ r o c _ (not_M_of_frozen hX hx2 h1 rfl) (g_lt hX hx2 h1) (by rw [hlen]; exact h4) ?_ f6
                have g1 := (e4.drop (a := a)).take (a := us)
                rw [← List.take_append_drop (hi * S.es k') us] at g1
                have g1 := g1.take
                rw [← List.take_append_drop (lo * S.es k') (us.take (hi * S.es k'))] at g1
                have g1 := g1.drop
                have hl := f5.len
                have : ((us.take (hi * S.es k')).take (lo * S.es k')).length = lo * S.es k' := by
                  simp only [List.length_take]
                  have : lo * S.es k' ≤ hi * S.es k' := Nat.mul_le_mul_right _ (by omega)
                  have : hi * S.es k' ≤ us.length := by rw [hl]; exact Nat.mul_le_mul_right _ (by omega)
                  omega
                rw [this] at g1
                rw [ho, ← e5]
                simpa using g1
              · have : (L.take hi).drop lo = [] := List.eq_nil_of_length_eq_zero (by omega)
                change RelF X.w X.M (.sl _ ((L.take hi).drop lo)) _
                rw [this, show hi - lo = 0 by omega]
                exact .sl0 _ _ _
  · obtain rfl := Option.some.inj h
    cases hr with
    | clo _ _ vs hv =>
      cases vs with
      | nil => exact .fn _
      | cons => exact hv.elim
  · rename_i s' c' 
    cases hr with
    | f _ _ hr => exact dec1_f h (.f _ _ hr)
  · simp at h

theorem decsC_sound {X : Cx S} (hX : WF X) {hp : List (Nat × Blk S)} : ∀ {ss : List (Sh S.K)} {cs : List (Cell S)} {d : Ds S.Ty ss} {us : List Value}, decsC hp ss cs = some d → RelCs X cs us →
    (∀ b, b ∈ lives cs → ∃ x, lk b hp = some x ∧ X.hp b = some x.frozen) → RelFs X.w X.M (encs ss d) us
  | [], [], d, us, _, hr, _ => by cases hr; exact .nil
  | [], _ :: _, _, _, h, _, _ => by simp [decsC] at h
  | _ :: _, [], _, _, h, _, _ => by simp [decsC] at h
  | s :: ss, c :: cs, d, us, h, hr, hz => by
    simp only [decsC] at h
    cases h1 : dec1C hp s c with
    | none => simp [h1] at h
    | some x =>
      cases h2 : decsC hp ss cs with
      | none => simp [h1, h2] at h
      | some y =>
        simp only [h1, h2] at h
        obtain rfl : (x, y) = d := Option.some.inj h
        have hz1 : ∀ b, b ∈ lives [c] → b ∈ lives (c :: cs) := by intro b hb; cases c <;> simp_all [lives]
        have hz2 : ∀ b, b ∈ lives cs → b ∈ lives (c :: cs) := by intro b hb; cases c <;> simp_all [lives]
        cases hr with
        | cons _ _ us vs f1 f2 f3 =>
          have g1 := dec1C_sound hX h1 f2 (fun b hb => hz b (hz1 b hb))
          have g2 := decsC_sound hX h2 f3 (fun b hb => hz b (hz2 b hb))
          refine .cons (enc1 s x) (encs ss y) us vs ?_ g1 g2
          rw [f1, enc1_width]
          unfold dec1C at h1
          split at h1 <;> try rfl
          · rename_i c'
            have := dec1_sound _ c' x h1
            show c'.width = _
            rw [← this, enc1_width]
          · simp at h1

theorem lives_f (cs : List (FC S)) : lives (cs.map (Cell.f (S := S))) = [] := by
  induction cs with
  | nil => rfl
  | cons c cs ih => simpa [lives] using ih

theorem lives_append : ∀ (a b : List (Cell S)), lives (a ++ b) = lives a ++ lives b
  | [], b => rfl
  | c :: a, b => by cases c <;> simp [lives, lives_append a b]

theorem seek_lives : ∀ {cs ds : List (Cell S)} {n : Nat}, seek cs n = some ds → ∀ b, b ∈ lives ds → b ∈ lives cs
  | [], ds, n, h => by
    simp only [seek] at h
    cases hb : Nat.beq n 0 <;> simp [hb] at h
    subst h; exact fun _ h => h
  | c :: cs, ds, n, h => by
    simp only [seek] at h
    cases hb : Nat.beq n 0 with
    | true => simp [hb] at h; subst h; exact fun _ h => h
    | false =>
      simp only [hb, cond_false] at h
      cases hc : Nat.ble c.width n with
      | false => simp [hc] at h
      | true =>
        simp only [hc, cond_true] at h
        intro b hb
        have := seek_lives h b hb
        cases c <;> simp_all [lives]

theorem putW_lives : ∀ {cs ds new : List (Cell S)} {off n : Nat}, putW cs off new n = some ds → ∀ b, b ∈ lives ds → b ∈ lives cs ∨ b ∈ lives new
  | [], ds, new, off, n, h => by
    simp only [putW] at h
    generalize Nat.beq off 0 = p at h
    generalize Nat.beq n 0 = q at h
    cases p <;> cases q <;> simp at h
    subst h; exact fun _ h => .inr h
  | c :: cs, ds, new, off, n, h => by
    simp only [putW] at h
    cases ha : Nat.beq off 0 with
    | true =>
      simp only [ha, cond_true] at h
      cases hk : seek (c :: cs) n with
      | none => simp [hk] at h
      | some l =>
        simp only [hk, Option.some.injEq] at h
        subst h
        intro b hb
        rw [lives_append] at hb
        rcases List.mem_append.1 hb with hb | hb
        · exact .inr hb
        · exact .inl (seek_lives hk b hb)
    | false =>
      simp only [ha, cond_false] at h
      cases hc : Nat.ble c.width off with
      | false => simp [hc] at h
      | true =>
        simp only [hc, cond_true] at h
        cases hk : putW cs (off - c.width) new n with
        | none => simp [hk] at h
        | some l =>
          simp only [hk, Option.some.injEq] at h
          subst h
          intro b hb
          have ih := putW_lives hk b
          cases c <;> simp only [lives, List.mem_cons] at hb ⊢ <;> first | exact ih hb | (rcases hb with hb | hb; exact .inl (.inl hb); rcases ih hb with h | h; exact .inl (.inr h); exact .inr h)

theorem run_storeAt {t : TypeId} {l : Lay S} (hl : LayOk P t l) (hn : l ≠ .none) {w : World} {r o : Nat} {cur us : List Value} {el : TypeId} {v : Value} (hg : w.heap[r]? = some (.cells cur.toArray el (0, 0)))
    (hv : v.cells = us.toArray) (hu : us.length = l.width) (hf : o + us.length ≤ cur.length) (h1 : ∀ v ∈ us, v.oneCell' = true) :
    (Instr.storeAt t (.pointer (some ⟨r, o, none⟩)) v).run P w = .ok () (w.setRow r (cur.take o ++ us ++ cur.drop (o + us.length)).toArray) := by
  obtain ⟨i, hi, hs⟩ := hl.size hn
  have := run_storeCells_at P r o el us 0 cur.toArray w hg (by simpa using hf) h1
  simp only [Nat.add_zero] at this
  simp [Instr.storeAt, Instr.sureAddr, storeVar, hv, run_sizeOf' hi, hs, ← hu, this]

end Vm
end

section
namespace Vm
open Go
variable {S : Sig} {R : Type} {P : Program} [Prog S] {st : St S} {o : Oper}

theorem wp_skip_of {a : Act} {w w' : World} {next : Act → World → Prop} {Q : Exit → Act → World → Prop} (h : (execOp a.eval o).run P w = .ok .skip w') (hn : next (a.put o.dst undef) w') : o.wp P a w next Q := by
  unfold Oper.wp
  rw [h]
  exact hn

/-- Blocks that are taken as data are frozen. -/
theorem frz_lives {X : Cx S} {hp : List (Nat × Blk S)} {bs : List Nat} (hX : WF X) (h : ∀ b, b ∈ bs → X.hp b = lk b hp) {cs : List (Cell S)} {us : List Value} (hc : RelCs X cs us) (hb : ∀ b, b ∈ lives cs → b ∈ bs) :
    ∀ b, b ∈ lives cs → ∃ x, lk b hp = some x ∧ (X.frs bs).hp b = some x.frozen := by
  intro b hm
  have hsome : ∃ x, X.hp b = some x := by
    clear hb h
    induction hc with
    | nil => simp [lives] at hm
    | cons c cs us vs h1 h2 h3 ih =>
      cases h2 with
      | asl b' _ _ _ _ r n cs' z _ _ e1 e2 _ _ =>
        simp only [lives, List.mem_cons] at hm
        rcases hm with rfl | hm
        · exact ⟨_, e2⟩
        · exact ih hm
      | live b' _ k L v z _ e1 _ _ _ =>
        simp only [lives, List.mem_cons] at hm
        rcases hm with rfl | hm
        · exact ⟨_, e1⟩
        · exact ih hm
      | _ => exact ih hm
  obtain ⟨x, hx⟩ := hsome
  refine ⟨x, by rw [← h b (hb b hm)]; exact hx, ?_⟩
  rw [frs_hp]
  simp [frzAt, hb b hm, hx]

theorem op_store [TabOk (S := S) P] {t : TypeId} {x y : Operand} (ho : o.op = .store t x y) {c : Cell S} {v : PE S} (hx : ev st x = some (.e (.sc c))) (hy : ev st y = some (.e v)) {K : Eff S → Option R} {r : R}
    (h : storeK st (Tab.at (Prog.tab : Tab S) t) c v K = some r) : ∃ e, K e = some r ∧ EffOk st e ∧ OpTr P st o e := by
  have hl := TabOk.ok (S := S) (P := P) t
  generalize Tab.at (Prog.tab : Tab S) t = l at h hl
  have hev : ∀ (X : Cx S) (a : Act), Knows X st (tmpsOf o.op.operands.toList) a → RelC X c [a.eval x] := fun X a hk => (ev_sound hx hk (fun t' e => by rw [ho]; subst e; simp [Op.operands, tmpsOf]) : RelE X (.sc c) (a.eval x)).1
  have hev2 : ∀ (X : Cx S) (a : Act), Knows X st (tmpsOf o.op.operands.toList) a → RelE X v (a.eval y) := fun X a hk => ev_sound hy hk (fun t' e => by rw [ho]; subst e; exact mem_tmps1 (by simp [Op.operands]) t' rfl)
  have hrun : ∀ (X : Cx S) (a : Act) (w' : World), (Instr.storeAt t (a.eval x) (a.eval y)).run P X.w = .ok () w' → (execOp a.eval o).run P X.w = .ok .skip w' := by
    intro X a w' h
    simp [execOp, ho, h]
  unfold storeK at h
  cases hw : Nat.beq (widthsC v.cells) l.width with
  | false => simp [hw] at h
  | true =>
  cases hw0 : Nat.beq l.width 0 with
  | true => simp [hw0] at h
  | false =>
  simp only [hw, hw0, Bool.not_true, Bool.or_self, cond_false] at h
  have hw := Nat.eq_of_beq_eq_true hw
  have hln : l ≠ .none := by rintro rfl; simp [Lay.width] at hw0
  have hwid : ∀ {X : Cx S} {us : List Value}, RelCs X v.cells us → us.length = l.width := fun h => h.len.trans hw
  split at h
  · rename_i b off
    split at h <;> try (simp at h; done)
    rename_i cs hlk
    split at h <;> try (simp at h; done)
    rename_i cs' hp
    refine ⟨_, h, ⟨Nat.le_refl _, fun b' hb' _ => ?_⟩, fun X a next Q hX hk hb hn => ?_⟩
    · rw [lk_cons, if_neg (fun e => hb' (by simp [e]))]
    · have hb1 : X.hp b = some (.var cs false) := (hb.wr b (by simp)).trans hlk
      have hc := hev X a hk
      obtain ⟨us, hu1, hu2⟩ := (hev2 X a hk).cells
      generalize hax : a.eval x = av at hc
      cases hc with
      | ptr _ _ r n cs2 z2 g1 g2 =>
        obtain ⟨r', n', el, zz, vs, e1, e2, e3, e4⟩ := hX.blk b _ hb1
        rw [g1] at e1; cases e1
        have e3 := e3 rfl
        subst e3
        obtain ⟨f1, f2⟩ := putW_sound e4 hu2 (hwid hu2) hp
        have hst := run_storeAt (P := P) (v := a.eval y) hl hln e2 hu1 (hwid hu2) (by rw [hwid hu2]; exact f1) hu2.one
        rw [← hwid hu2] at f2
        refine wp_skip_of (hrun X a _ (by rw [hax]; exact hst)) ?_
        have hext := Ext.st (c' := .var cs' false) hX hb1 rfl g1 (vs.take off ++ us ++ vs.drop (off + us.length)).toArray (by simp [stepB]) (by simp [Blk.fz])
        have hwf := hX.st hb1 g1 (c' := .var cs' false) _ hext ⟨r, n, el, (0, 0), _, g1, setRow_heap _ _ _ _ _ _ e2, fun _ => rfl, hext.relCs f2⟩
        refine hn _ undef hext hwf rfl rfl fun b' => ?_
        simp only [Cx.st, List.mem_singleton, lk_cons]
        by_cases e : b' = b
        · simp [e]
        · rw [if_neg e, if_neg (by simp only [e, false_or]; omega)]
  · rename_i b ver k i sub
    split at h <;> try (simp at h; done)
    rename_i k' L ver' hlk
    split at h <;> try (simp at h; done)
    rename_i hk'
    cases hv : Nat.beq ver ver' with
    | false => simp [hv] at h
    | true =>
    cases hh : has b (lives v.cells) with
    | true => simp [hv, hh] at h
    | false =>
    simp only [hv, hh, Bool.not_false, Bool.and_self, cond_true] at h
    have hv := Nat.eq_of_beq_eq_true hv
    have hh := has_false hh
    split at h <;> try (simp at h; done)
    rename_i e0 hi
    split at h <;> try (simp at h; done)
    rename_i cs' hp
    split at h <;> try (simp at h; done)
    rename_i d hd
    subst hk'
    refine ⟨_, h, ⟨Nat.le_refl _, fun b' hb' _ => ?_⟩, fun X a next Q hX hk hb hn => ?_⟩
    · rw [lk_cons, if_neg (fun e => hb' (by simp [e])), lk_frz]
      simp only [frzAt]
      rw [if_neg (fun e => hb' (by simp [e]))]
    · have hb1 : X.hp b = some (.arr k' L ver' false) := (hb.wr b (by simp)).trans hlk
      have hc := hev X a hk
      obtain ⟨us, hu1, hu2⟩ := (hev2 X a hk).cells
      generalize hax : a.eval x = av at hc
      cases hc with
      | eptr _ _ _ _ _ k2 L2 v2 z2 r p0 g1 g2 g3 =>
      rw [hb1] at g1; cases g1
      obtain ⟨_, hlt, ⟨n, hg⟩, rfl⟩ := g3 hv
      obtain ⟨x1, x2, x3, x4, x5⟩ := Ext.frs (lives v.cells) X hX
      have hbl : ∀ b', b' ∈ lives v.cells → X.hp b' = lk b' st.hp := fun b' h' => hb.wr b' (by simp [h'])
      have hY : (X.frs (lives v.cells)).hp b = some (.arr k' L ver' false) := by rw [frs_hp]; simp only [frzAt]; rw [if_neg hh]; exact hb1
      have hgY : (X.frs (lives v.cells)).g b = some (r, n) := by rw [x5]; exact hg
      generalize hYdef : X.frs (lives v.cells) = Y at *
      have hB := x2.blk b _ hY
      simp only [RelB, hgY] at hB
      obtain ⟨el, zz, vs, rest, e2, e3, e4, e5, e6⟩ := hB
      have e3 : zz = (0, 0) := by first | exact e3 rfl | exact e3 trivial
      subst e3
      have e4' := e4
      obtain ⟨p, ws, q, rfl, p2, p3, p4⟩ := e4.get i e0 hi
      have hu3 := x1.relCs hu2
      obtain ⟨f1, f2⟩ := putW_sound p4.toC hu3 (hwid hu3) hp
      have hfz := frz_lives (bs := lives v.cells) hX hbl hu2 (fun _ h => h)
      rw [hYdef] at hfz
      have hdata := decsC_sound x2 hd f2 (fun b' hb' => hfz b' (by
        rcases putW_lives hp b' hb' with h' | h'
        · rw [lives_f] at h'; simp at h'
        · exact h'))
      have hlus := hwid hu3
      have hcur : (p ++ ws ++ q ++ rest).take (i * S.es k' + sub) ++ us ++ (p ++ ws ++ q ++ rest).drop (i * S.es k' + sub + us.length) =
          (p ++ (ws.take sub ++ us ++ ws.drop (sub + l.width)) ++ q) ++ rest := by
        rw [← p2, hlus, show p ++ ws ++ q ++ rest = p ++ (ws ++ (q ++ rest)) by simp [List.append_assoc], List.take_append, List.drop_append]
        have t1 : p.take (p.length + sub) = p := List.take_of_length_le (by omega)
        have t2 : p.drop (p.length + sub + l.width) = [] := List.drop_eq_nil_of_le (by omega)
        have t3 : p.length + sub - p.length = sub := by omega
        have t4 : p.length + sub + l.width - p.length = sub + l.width := by omega
        have t5 : (ws ++ (q ++ rest)).take sub = ws.take sub := by rw [List.take_append, show sub - ws.length = 0 by omega]; simp
        have t6 : (ws ++ (q ++ rest)).drop (sub + l.width) = ws.drop (sub + l.width) ++ (q ++ rest) := by rw [List.drop_append, show sub + l.width - ws.length = 0 by omega]; simp
        rw [t1, t2, t3, t4, t5, t6]
        simp [List.append_assoc]
      have hnew : RelEs Y.w Y.M k' (L.set i (S.of k' d)) (p ++ (ws.take sub ++ us ++ ws.drop (sub + l.width)) ++ q) := by
        have := e4'.set i (S.of k' d) (ws.take sub ++ us ++ ws.drop (sub + l.width)) hlt (by simp [hlus]; omega) (by unfold enc; rw [S.toof]; exact hdata)
        rw [← p2] at this
        have t1 : (p ++ ws ++ q).take p.length = p := by rw [List.append_assoc, List.take_left]
        have t2 : (p ++ ws ++ q).drop (p.length + S.es k') = q := by rw [← p3, List.append_assoc, ← List.drop_drop, List.drop_left, List.drop_left]
        rw [t1, t2] at this
        exact this
      have hst := run_storeAt (P := P) (v := a.eval y) (o := i * S.es k' + sub) hl hln (x3 ▸ e2) hu1 hlus (by rw [hlus]; simp [p2]; omega) hu2.one
      rw [hcur] at hst
      refine wp_skip_of (hrun X a _ (by rw [hax]; exact hst)) ?_
      have hext := Ext.st (c' := .arr k' (L.set i (S.of k' d)) ver' false) x2 hY rfl hgY ((p ++ (ws.take sub ++ us ++ ws.drop (sub + l.width)) ++ q) ++ rest).toArray (by simp [stepB]) (by simp [Blk.fz])
      have hlen : ((p ++ (ws.take sub ++ us ++ ws.drop (sub + l.width)) ++ q) ++ rest).length = (p ++ ws ++ q ++ rest).length := by
        simp [hlus]; omega
      have hwf := x2.st hY hgY (c' := .arr k' (L.set i (S.of k' d)) ver' false) _ hext (by
        have hg' : (Y.st b (.arr k' (L.set i (S.of k' d)) ver' false) r ((p ++ (ws.take sub ++ us ++ ws.drop (sub + l.width)) ++ q) ++ rest).toArray).g b = some (r, n) := hgY
        simp only [RelB, hg']
        refine ⟨el, (0, 0), _, rest, setRow_heap _ _ _ _ _ _ e2, fun _ => rfl, hnew.up hext.chgM hext.m, by simpa using e5, by rw [hlen]; exact e6⟩)
      have hsame : Y.w.setRow r ((p ++ (ws.take sub ++ us ++ ws.drop (sub + l.width)) ++ q) ++ rest).toArray = X.w.setRow r ((p ++ (ws.take sub ++ us ++ ws.drop (sub + l.width)) ++ q) ++ rest).toArray := by rw [x3]
      have hfin := hn _ undef (x1.comp hext x4 x2) hwf x4 rfl (fun b' => ?_)
      · show next _ _
        rw [← hsame]; exact hfin
      · simp only [Cx.st, List.mem_cons, lk_cons]
        by_cases e : b' = b
        · simp [e]
        · rw [if_neg e, ← hYdef, frs_hp, lk_frz]
          simp only [frzAt, e, if_false, false_or]
          by_cases e' : b' ∈ lives v.cells
          · simp [e', hbl b' e']
          · rw [if_neg e', if_neg (by simp only [e', false_or]; omega)]
  · rename_i b off k i
    split at h <;> try (simp at h; done)
    rename_i cs hlk
    split at h <;> try (simp at h; done)
    rename_i k' n L tl hs
    split at h <;> try (simp at h; done)
    rename_i hk'
    cases hv : Nat.beq l.width (S.es k') with
    | false => simp [hv] at h
    | true =>
    cases hh : has b (lives v.cells) with
    | true => simp [hv, hh] at h
    | false =>
    simp only [hv, hh, Bool.not_false, Bool.and_self, cond_true] at h
    have hv := Nat.eq_of_beq_eq_true hv
    have hh := has_false hh
    split at h <;> try (simp at h; done)
    rename_i e0 hi
    split at h <;> try (simp at h; done)
    rename_i d hd
    split at h <;> try (simp at h; done)
    rename_i cs' hp
    subst hk'
    have hlt : i < L.length := by
      rcases Nat.lt_or_ge i L.length with h | h
      · exact h
      · rw [List.getElem?_eq_none h] at hi; cases hi
    refine ⟨_, h, ⟨Nat.le_refl _, fun b' hb' _ => ?_⟩, fun X a next Q hX hk hb hn => ?_⟩
    · rw [lk_cons, if_neg (fun e => hb' (by simp [e])), lk_frz]
      simp only [frzAt]
      rw [if_neg (fun e => hb' (by simp [e]))]
    · have hb1 : X.hp b = some (.var cs false) := (hb.wr b (by simp)).trans hlk
      have hc := hev X a hk
      obtain ⟨us, hu1, hu2⟩ := (hev2 X a hk).cells
      generalize hax : a.eval x = av at hc
      cases hc with
      | aptr _ _ _ _ r n2 cs2 z2 g1 g2 =>
      obtain ⟨x1, x2, x3, x4, x5⟩ := Ext.frs (lives v.cells) X hX
      have hbl : ∀ b', b' ∈ lives v.cells → X.hp b' = lk b' st.hp := fun b' h' => hb.wr b' (by simp [h'])
      have hY : (X.frs (lives v.cells)).hp b = some (.var cs false) := by rw [frs_hp]; simp only [frzAt]; rw [if_neg hh]; exact hb1
      have hgY : (X.frs (lives v.cells)).g b = some (r, n2) := by rw [x5]; exact g1
      generalize hYdef : X.frs (lives v.cells) = Y at *
      obtain ⟨r', n', el, zz, vs, e1, e2, e3, e4⟩ := x2.blk b _ hY
      rw [hgY] at e1; cases e1
      have e3 : zz = (0, 0) := by first | exact e3 rfl | exact e3 trivial
      subst e3
      have hfz := frz_lives (bs := lives v.cells) hX hbl hu2 (fun _ h => h)
      rw [hYdef] at hfz
      have hu3 := x1.relCs hu2
      have hdata := decsC_sound x2 hd hu3 hfz
      have hlus := (hwid hu3).trans hv
      obtain ⟨pa, pb, e5, e6, e7⟩ := seek_sound e4 hs
      cases e7 with
      | cons _ _ us0 ws f1 f2 f3 =>
      cases f2 with
      | f _ _ f2 =>
      cases f2 with
      | arr _ _ _ _ f4 f5 =>
      have h0 := f5.len
      have hmul : i * S.es k' + S.es k' ≤ us0.length := by
        rw [h0, show i * S.es k' + S.es k' = (i + 1) * S.es k' by rw [Nat.add_mul]; omega]
        exact Nat.mul_le_mul_right _ hlt
      have hset := f5.set i (S.of k' d) us hlt hlus (by unfold enc; rw [S.toof]; exact hdata)
      have hus1 : (us0.take (i * S.es k') ++ us ++ us0.drop (i * S.es k' + S.es k')).length = n * S.es k' := by
        simp [hlus]; rw [← f4, ← h0]; omega
      have hcell : RelCs Y [.f (.arr k' n (L.set i (S.of k' d)))] (us0.take (i * S.es k') ++ us ++ us0.drop (i * S.es k' + S.es k')) := by
        have := RelCs.cons (X := Y) (.f (.arr k' n (L.set i (S.of k' d)))) [] _ [] (by rw [hus1]; rfl) (.f _ _ (.arr _ _ _ _ (by simpa using f4) hset)) .nil
        simpa using this
      obtain ⟨p1, p2⟩ := putW_sound e4 hcell hus1 hp
      have hn0 : us0.length = n * S.es k' := by rw [h0, f4]
      have hcur : vs.take (off + i * S.es k') ++ us ++ vs.drop (off + i * S.es k' + us.length) =
          vs.take off ++ (us0.take (i * S.es k') ++ us ++ us0.drop (i * S.es k' + S.es k')) ++ vs.drop (off + n * S.es k') := by
        subst e5
        rw [← e6, hlus]
        have t1 : (pa ++ (us0 ++ ws)).take (pa.length + i * S.es k') = pa ++ us0.take (i * S.es k') := by
          rw [List.take_append, List.take_of_length_le (by omega), show pa.length + i * S.es k' - pa.length = i * S.es k' by omega, List.take_append, show i * S.es k' - us0.length = 0 by omega]
          simp
        have t2 : (pa ++ (us0 ++ ws)).drop (pa.length + i * S.es k' + S.es k') = us0.drop (i * S.es k' + S.es k') ++ ws := by
          rw [List.drop_append, List.drop_eq_nil_of_le (by omega), show pa.length + i * S.es k' + S.es k' - pa.length = i * S.es k' + S.es k' by omega, List.drop_append, show i * S.es k' + S.es k' - us0.length = 0 by omega]
          simp
        have t3 : (pa ++ (us0 ++ ws)).take pa.length = pa := by simp
        have t4 : (pa ++ (us0 ++ ws)).drop (pa.length + n * S.es k') = ws := by
          rw [← hn0, ← List.drop_drop, List.drop_left, List.drop_left]
        rw [t1, t2, t3, t4]
        simp [List.append_assoc]
      have hst := run_storeAt (P := P) (v := a.eval y) (o := off + i * S.es k') hl hln (x3 ▸ e2) hu1 (hwid hu3) (by rw [hlus]; omega) hu2.one
      rw [hcur] at hst
      refine wp_skip_of (hrun X a _ (by rw [hax]; exact hst)) ?_
      have hext := Ext.st (c' := .var cs' false) x2 hY rfl hgY (vs.take off ++ (us0.take (i * S.es k') ++ us ++ us0.drop (i * S.es k' + S.es k')) ++ vs.drop (off + n * S.es k')).toArray (by simp [stepB]) (by simp [Blk.fz])
      have hwf := x2.st hY hgY (c' := .var cs' false) _ hext ⟨r, n2, el, (0, 0), _, hgY, setRow_heap _ _ _ _ _ _ e2, fun _ => rfl, hext.relCs p2⟩
      have hfin := hn _ undef (x1.comp hext x4 x2) hwf x4 rfl (fun b' => ?_)
      · show next _ _
        have hsame : Y.w.setRow r (vs.take off ++ (us0.take (i * S.es k') ++ us ++ us0.drop (i * S.es k' + S.es k')) ++ vs.drop (off + n * S.es k')).toArray = X.w.setRow r (vs.take off ++ (us0.take (i * S.es k') ++ us ++ us0.drop (i * S.es k' + S.es k')) ++ vs.drop (off + n * S.es k')).toArray := by rw [x3]
        rw [← hsame]; exact hfin
      · simp only [Cx.st, List.mem_cons, lk_cons]
        by_cases e : b' = b
        · simp [e]
        · rw [if_neg e, ← hYdef, frs_hp, lk_frz]
          simp only [frzAt, e, if_false, false_or]
          by_cases e' : b' ∈ lives v.cells
          · simp [e', hbl b' e']
          · rw [if_neg e', if_neg (by simp only [e', false_or]; omega)]
  · simp at h

end Vm
end

section
namespace Vm
open Go
variable {S : Sig} {R : Type} {P : Program} [Prog S] {st : St S} {o : Oper}

theorem run_fieldAt {t : TypeId} {shs : List (Sh S.K)} {offs : List Nat} {w : Nat} (hl : LayOk P t (.st shs offs w : Lay S)) {i off n : Nat} (hf : Vm.fieldAt offs w i = some (off, n)) (W : World) (r p : Nat) :
    (Instr.fieldAt t (.pointer (some ⟨r, p, none⟩)) i).run P W = .ok (.pointer (some ⟨r, p + off, none⟩)) W := by
  obtain ⟨ti, fs, zs, h00, h1, h2, h3, h4, h5, h6, h7⟩ := hl
  obtain ⟨f, fi, g1, g2, g3, g4, g5⟩ := h7 i off n hf
  simp only [Instr.fieldAt, Sem.run_bind, run_underlying h3, Result.andThen_ok, g1, Instr.sureAddr, Sem.run_pure]
  simp only [fieldPlace, Sem.run_bind, run_sizeOf' g3, Result.andThen_ok, g4, g5, if_false]
  rw [g2]
  simp [add_addr]

theorem op_fieldAddr [TabOk (S := S) P] {t : TypeId} {x : Operand} {i : Nat} (ho : o.op = .fieldAddr t x i) {shs : List (Sh S.K)} {offs : List Nat} {w : Nat} (hl : Tab.at (Prog.tab : Tab S) t = .st shs offs w) {off n : Nat}
    (hf : Vm.fieldAt offs w i = some (off, n)) {c d : Cell S} (hx : ev st x = some (.e (.sc c)))
    (hd : (∃ b p, c = .ptr b p ∧ d = .ptr b (p + off)) ∨ (∃ b v k j s, c = .eptr b v k j s ∧ d = .eptr b v k j (s + off)) ∨ (∃ cs cs', c = .fptr cs ∧ seek (cs.map .f) off = some (cs'.map .f) ∧ d = .fptr cs')) :
    EffOk st (⟨.e (.sc d), [], [], st.hp, st.nx⟩ : Eff S) ∧ OpTr P st o ⟨.e (.sc d), [], [], st.hp, st.nx⟩ := by
  have hlay := TabOk.ok (S := S) (P := P) t
  rw [hl] at hlay
  refine OpTr.val fun X a hX hk _ => ?_
  have hc : RelC X c [a.eval x] := (ev_sound hx hk (fun t' e => by rw [ho]; subst e; simp [Op.operands, tmpsOf]) : RelE X (.sc c) (a.eval x)).1
  have key : ∀ v, RelC X d [v] → d.isSc = true → (Instr.fieldAt t (a.eval x) i).run P X.w = .ok v X.w → ∃ v, (execOp a.eval o).run P X.w = .ok (.value v) X.w ∧ RelP X (.e (.sc d)) v :=
    fun v h1 h2 h3 => ⟨v, by simp [execOp, ho, h3], h1, h2⟩
  generalize hax : a.eval x = av at hc key
  rcases hd with ⟨b, p, rfl, rfl⟩ | ⟨b, v, k, j, s, rfl, rfl⟩ | ⟨cs, cs', rfl, hs, rfl⟩
  · cases hc with
    | ptr _ _ r n' cs z g1 g2 => exact key _ (.ptr b (p + off) r n' cs z g1 g2) rfl (run_fieldAt hlay hf _ _ _)
  · cases hc with
    | eptr _ _ _ _ _ k' L ver' z r p g1 g2 g3 =>
      refine key _ (.eptr b v k j (s + off) k' L ver' z r (p + off) g1 g2 (fun e => ?_)) rfl (run_fieldAt hlay hf _ _ _)
      obtain ⟨e1, e2, e3, e4⟩ := g3 e
      exact ⟨e1, e2, e3, by rw [e4, Nat.add_assoc]⟩
  · cases hc with
    | fptr _ r p vs g1 g2 g3 g4 =>
      obtain ⟨us, ws, rfl, e1, e2⟩ := seek_sound g4.toC hs
      subst e1
      exact key _ (.fptr cs' r (p + us.length) ws g1 g2 g3.drop e2.toF) rfl (run_fieldAt hlay hf _ _ _)

theorem op_nilCheck {x : Operand} (ho : o.op = .nilCheck x) {c : Cell S} (hx : ev st x = some (.e (.sc c)))
    (hc : (∃ b p, c = .ptr b p) ∨ (∃ b v k j s, c = .eptr b v k j s) ∨ (∃ cs, c = .fptr cs) ∨ (∃ f cs, c = .clo f cs)) :
    EffOk st (⟨.e (.sc c), [], [], st.hp, st.nx⟩ : Eff S) ∧ OpTr P st o ⟨.e (.sc c), [], [], st.hp, st.nx⟩ := by
  refine OpTr.val fun X a hX hk _ => ?_
  have hr : RelE X (.sc c) (a.eval x) := ev_sound hx hk (fun t' e => by rw [ho]; subst e; simp [Op.operands, tmpsOf])
  refine ⟨a.eval x, ?_, hr⟩
  obtain ⟨hr, _⟩ := hr
  generalize hax : a.eval x = av at hr
  rcases hc with ⟨b, p, rfl⟩ | ⟨b, v, k, j, s, rfl⟩ | ⟨cs, rfl⟩ | ⟨f, cs, rfl⟩ <;> cases hr <;> simp [execOp, ho, hax]

theorem run_part [TabOk (S := S) P] {t : TypeId} {l : Lay S} (hl : LayOk P t l) (hn : l ≠ .none) {X : Cx S} {cs cs1 cs2 : List (Cell S)} {us : List Value} {off : Nat} {p : PE S}
    (hr : RelCs X cs us) (hs : seek cs off = some cs1) (ht : takeW cs1 l.width = some cs2) (hp : mkPE l.agg cs2 = some p) (w : World) :
    ∃ v, (part t us.toArray off).run P w = .ok v w ∧ RelE X p v := by
  obtain ⟨a, b, rfl, e1, e2⟩ := seek_sound hr hs
  obtain ⟨c, d, rfl, e3, e4⟩ := takeW_sound e2 ht
  refine ⟨valOf l.agg c, ?_, mkPE_rel hp e4⟩
  obtain ⟨i, hi, hsz⟩ := hl.size hn
  unfold part
  simp only [Sem.run_bind, hl.agg hn, Result.andThen_ok]
  subst e1
  cases ha : l.agg with
  | true =>
    simp only [if_true, Sem.run_bind, run_sizeOf' hi, Result.andThen_ok, hsz, ← e3, valOf]
    simp
  | false =>
    have h1 : c.length = 1 := by rw [e3]; cases l <;> simp_all [Lay.agg, Lay.width]
    obtain ⟨v, rfl⟩ : ∃ v, c = [v] := by
      cases c with
      | nil => simp at h1
      | cons v us => cases us with
        | nil => exact ⟨v, rfl⟩
        | cons => simp at h1
    simp [valOf]

theorem none_of_takeW {l : Lay S} {cs cs' : List (Cell S)} {p : PE S} (h1 : takeW cs l.width = some cs') (h2 : mkPE l.agg cs' = some p) : l ≠ .none := by
  intro e
  subst e
  simp only [Lay.width, Lay.agg] at h1 h2
  have : cs' = [] := by cases cs <;> simp [takeW] at h1 <;> exact h1
  subst this
  simp [mkPE] at h2

theorem op_field [TabOk (S := S) P] {t : TypeId} {x : Operand} {i : Nat} (ho : o.op = .field t x i) {shs : List (Sh S.K)} {offs : List Nat} {w : Nat} (hl : Tab.at (Prog.tab : Tab S) t = .st shs offs w) {off n : Nat}
    (hf : Vm.fieldAt offs w i = some (off, n)) {cs cs1 cs2 : List (Cell S)} (hx : ev st x = some (.e (.ag cs))) {ft : TypeId} (hft : (lk t (Prog.fts S)).bind (·[i]?) = some ft)
    (hs : seek cs off = some cs1) (ht : takeW cs1 (Tab.at (Prog.tab : Tab S) ft).width = some cs2) {p : PE S} (hp : mkPE (Tab.at (Prog.tab : Tab S) ft).agg cs2 = some p) :
    EffOk st (⟨.e p, [], [], st.hp, st.nx⟩ : Eff S) ∧ OpTr P st o ⟨.e p, [], [], st.hp, st.nx⟩ := by
  have hlay := TabOk.ok (S := S) (P := P) t
  rw [hl] at hlay
  refine OpTr.val fun X a hX hk _ => ?_
  have hc : RelE X (.ag cs) (a.eval x) := ev_sound hx hk (fun t' e => by rw [ho]; subst e; simp [Op.operands, tmpsOf])
  obtain ⟨us, h1, h2⟩ := hc
  obtain ⟨ti, fs, zs, g00, g1, g2, g3, g4, g5, g6, g7⟩ := hlay
  obtain ⟨f, fi, f1, f2, f3, f4, f5⟩ := g7 i off n hf
  obtain ⟨fs', f', k1, k2, k3⟩ := TabOk.fts (S := S) (P := P) t i ft hft
  rw [g3] at k1; cases k1
  rw [f1] at k2; cases k2
  subst k3
  obtain ⟨v, hv1, hv2⟩ := run_part (P := P) (TabOk.ok (S := S) (P := P) f.type) (none_of_takeW ht hp) h2 hs ht hp X.w
  refine ⟨v, ?_, hv2⟩
  simp only [execOp, ho, Instr.field, Sem.run_bind, run_underlying g3, Result.andThen_ok, f1, h1, asAgg, Sem.run_pure, f2, hv1]

theorem num_of {X : Cx S} {a : Act} {p : PV S} {x : Operand} {n : Int} (hn : numE p = some n) (hr : RelP X p (a.eval x)) : ∃ k, a.eval x = .int k n := by
  unfold numE at hn
  split at hn
  · rename_i k m
    obtain rfl := Option.some.inj hn
    exact ⟨k, rel_int hr⟩
  · simp at hn

theorem run_indexAt_sl {t e : TypeId} {ei : TypeInfo} (h1 : P.underlying t = some (.slice e)) (h2 : P.info? e = some ei) (w : World) (r o len c : Nat) (kk : IntKind) (n : Int) (h0 : 0 ≤ n) (hn : n.toNat < len) :
    (Instr.indexAt t (.slice (some ⟨r, o, none⟩) len c) (.int kk n)).run P w = .ok (.pointer (some ⟨r, o + n.toNat * ei.size, none⟩)) w := by
  have : 0 ≤ n ∧ n < (len : Int) := ⟨h0, by omega⟩
  simp [Instr.indexAt, asIntOf, run_underlying h1, this, run_sizeOf' h2, add_addr]

theorem run_indexAt_ar {t e : TypeId} {ei : TypeInfo} {len : Nat} (h1 : P.underlying t = some (.array len e)) (h2 : P.info? e = some ei) (w : World) (r o : Nat) (kk : IntKind) (n : Int) (h0 : 0 ≤ n) (hn : n.toNat < len) :
    (Instr.indexAt t (.pointer (some ⟨r, o, none⟩)) (.int kk n)).run P w = .ok (.pointer (some ⟨r, o + n.toNat * ei.size, none⟩)) w := by
  have : 0 ≤ n ∧ n < (len : Int) := ⟨h0, by omega⟩
  simp [Instr.indexAt, asIntOf, run_underlying h1, Instr.sureAddr, this, run_sizeOf' h2, add_addr]

theorem op_indexAddr [TabOk (S := S) P] {t : TypeId} {x y : Operand} (ho : o.op = .indexAddr t x y) {c : Cell S} (hx : ev st x = some (.e (.sc c))) {kk : IntKind} {n : Int} (hy : ev st y = some (.e (.sc (.f (.int kk n)))))
    {K : Cell S → List Nat → Option R} {r : R} (h : indexK (Tab.at (Prog.tab : Tab S) t) st c n K = some r) :
    ∃ d rd, K d rd = some r ∧ EffOk st (⟨.e (.sc d), rd, [], st.hp, st.nx⟩ : Eff S) ∧ OpTr P st o ⟨.e (.sc d), rd, [], st.hp, st.nx⟩ := by
  have hl := TabOk.ok (S := S) (P := P) t
  generalize Tab.at (Prog.tab : Tab S) t = l at h hl
  have hev : ∀ (X : Cx S) (a : Act), Knows X st (tmpsOf o.op.operands.toList) a → RelC X c [a.eval x] := fun X a hk => (ev_sound hx hk (fun t' e => by rw [ho]; subst e; simp [Op.operands, tmpsOf]) : RelE X (.sc c) (a.eval x)).1
  have hint : ∀ (X : Cx S) (a : Act), Knows X st (tmpsOf o.op.operands.toList) a → a.eval y = .int kk n := fun X a hk => rel_int (ev_sound hy hk (fun t' e => by rw [ho]; subst e; exact mem_tmps1 (by simp [Op.operands]) t' rfl))
  have fin : ∀ (X : Cx S) (a : Act) (v : Value) (d : Cell S), (Instr.indexAt t (a.eval x) (a.eval y)).run P X.w = .ok v X.w → RelC X d [v] → d.isSc = true → ∃ v, (execOp a.eval o).run P X.w = .ok (.value v) X.w ∧ RelP X (.e (.sc d)) v :=
    fun X a v d h1 h2 h3 => ⟨v, by simp [execOp, ho, h1], h2, h3⟩
  unfold indexK at h
  cases h0 : decide (0 ≤ n) with
  | false => simp [h0] at h
  | true =>
  simp only [h0, cond_true] at h
  have h0 : 0 ≤ n := of_decide_eq_true h0
  have hget : ∀ {k : S.K} {L : List (S.Ty k)} {e : S.Ty k}, L[n.toNat]? = some e → n.toNat < L.length := by
    intro k L e he
    rcases Nat.lt_or_ge n.toNat L.length with h | h
    · exact h
    · rw [List.getElem?_eq_none h] at he; cases he
  split at h
  · -- frozen
    rename_i k' k L
    split at h <;> try (simp at h; done)
    rename_i hk
    subst hk
    split at h <;> try (simp at h; done)
    rename_i e he
    have hlt := hget he
    obtain ⟨ti, et, ei, ze, g1, g2, g3, g4, g5, _⟩ := hl
    refine ⟨_, _, h, OpTr.val fun X a hX hk _ => ?_⟩
    have hc := hev X a hk
    have hi := hint X a hk
    have fin := fin X a
    rw [hi] at fin
    generalize hax : a.eval x = av at hc fin
    cases hc with
    | f _ _ hc =>
    cases hc with
    | sl0 => simp at hlt
    | sl _ _ b off c vs k1 k2 k3 k4 k5 =>
      obtain ⟨p, us, q, rfl, e2, e3, e4⟩ := k5.get _ e he
      refine fin _ _ (run_indexAt_sl g3 g4 X.w b off L.length c kk n h0 hlt) (.fptr _ b _ us k1 k2 ?_ e4) rfl
      rw [List.append_assoc] at k4
      have := k4.drop.take
      rwa [e2, ← g5] at this
  · -- alive
    rename_i k' b v
    split at h <;> try (simp at h; done)
    rename_i k L v' z hlk
    split at h <;> try (simp at h; done)
    rename_i hk
    subst hk
    cases hv : Nat.beq v v' with
    | false => simp [hv] at h
    | true =>
    cases hd : decide (n < (L.length : Int)) with
    | false => simp [hv, hd] at h
    | true =>
    simp only [hv, hd, cond_true] at h
    have hv := Nat.eq_of_beq_eq_true hv
    subst hv
    have hlt : n.toNat < L.length := by have := of_decide_eq_true hd; omega
    obtain ⟨ti, et, ei, ze, g1, g2, g3, g4, g5, _⟩ := hl
    refine ⟨_, _, h, OpTr.val fun X a hX hk hrd => ?_⟩
    have hb : X.hp b = some (.arr k' L v z) := (hrd b (by simp)).trans hlk
    have hc := hev X a hk
    have hi := hint X a hk
    have fin := fin X a
    rw [hi] at fin
    generalize hax : a.eval x = av at hc fin
    cases hc with
    | live _ _ k2 L2 v2 z2 _ e1 e2 e3 e4 =>
      rw [hb] at e1; cases e1
      have e3 := e3 rfl
      unfold liveAt at e3
      cases hg : X.g b with
      | none => rw [hg] at e3; rw [e3.1] at hlt; simp at hlt
      | some q =>
        obtain ⟨r, cap⟩ := q
        rw [hg] at e3
        simp only at e3
        subst e3
        refine fin _ _ (run_indexAt_sl g3 g4 X.w r 0 L.length cap kk n h0 hlt) (.eptr _ _ _ _ _ _ L v z r _ hb (Nat.le_refl _) fun _ => ⟨rfl, hlt, ⟨cap, hg⟩, by rw [g5]; omega⟩) rfl
  · -- an array
    rename_i k m b off
    split at h <;> try (simp at h; done)
    rename_i cs z hlk
    split at h <;> try (simp at h; done)
    rename_i k' n' L tl hs
    split at h <;> try (simp at h; done)
    rename_i hk
    subst hk
    cases hv : Nat.beq n' m with
    | false => simp [hv] at h
    | true =>
    cases hd : decide (n < (m : Int)) with
    | false => simp [hv, hd] at h
    | true =>
    simp only [hv, hd, cond_true] at h
    have hlt : n.toNat < m := by have := of_decide_eq_true hd; omega
    obtain ⟨ti, et, ei, zs, g1, g2, g3, g4, g5, _⟩ := hl
    refine ⟨_, _, h, OpTr.val fun X a hX hk hrd => ?_⟩
    have hc := hev X a hk
    have hi := hint X a hk
    have fin := fin X a
    rw [hi] at fin
    generalize hax : a.eval x = av at hc fin
    cases hc with
    | ptr _ _ r q cs2 z2 e1 e2 =>
      refine fin _ _ (run_indexAt_ar g3 g4 X.w r off kk n h0 hlt) (by rw [g5]; exact .aptr b off _ _ r q cs2 z2 e1 e2) rfl
  · -- a frozen array
    rename_i k m k' n' L tl
    split at h <;> try (simp at h; done)
    rename_i hk
    subst hk
    cases hv : Nat.beq n' m with
    | false => simp [hv] at h
    | true =>
    simp only [hv, cond_true] at h
    have hv := Nat.eq_of_beq_eq_true hv
    split at h <;> try (simp at h; done)
    rename_i e he
    have hlt := hget he
    obtain ⟨ti, et, ei, zs, g1, g2, g3, g4, g5, _⟩ := hl
    refine ⟨_, _, h, OpTr.val fun X a hX hk _ => ?_⟩
    have hc := hev X a hk
    have hi := hint X a hk
    have fin := fin X a
    rw [hi] at fin
    generalize hax : a.eval x = av at hc fin
    cases hc with
    | fptr _ r p vs k1 k2 k3 k4 =>
      cases k4 with
      | cons _ _ us ws f1 f2 f3 =>
        cases f2 with
        | arr _ _ _ _ f4 f5 =>
          obtain ⟨pa, ua, qa, rfl, e2, e3, e4⟩ := f5.get _ e he
          refine fin _ _ (run_indexAt_ar g3 g4 X.w r p kk n h0 (by omega)) (.fptr _ r _ ua k1 k2 ?_ e4) rfl
          have := k3.take
          rw [List.append_assoc] at this
          have := this.drop.take
          rwa [e2, ← g5] at this
  · simp at h

end Vm
end
