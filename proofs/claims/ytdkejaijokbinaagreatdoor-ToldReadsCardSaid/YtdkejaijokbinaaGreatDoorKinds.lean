/- The program kinds as Lean structures, and what the library functions compute; no conditions. -/
import Derived.Test.YtdkejaijokbinaaGreatDoorVmD
import Derived.Lib.ItoaNum
import Derived.Lib.AtoiAll
import Derived.Lib.ParseIntB
import Derived.Lib.IndexMore
import Derived.Lib.Split
import Derived.Lib.TrimByte
import Derived.Lib.SlTrimSet
import Derived.Lib.Repeat
set_option linter.all false

section
namespace Vm.Fu
open Go Vm

structure Rule where
  At : Int
  Off : Int
  Name : List UInt8

structure Zone where
  Name : List UInt8
  First : Int
  L : List (Rule)

structure Smear where
  Kind : Int
  Before : Int
  After : Int

structure Fuzz where
  Width : Int
  Cell : Int

structure Policy where
  Smear : Smear
  Quantum : Int
  Fuzz : Fuzz
  Jump : Bool
  Zone : Zone

structure Pause where
  On : Bool
  At : Int
  Lost : Int

structure Floor where
  Set : Bool
  At : Int

structure Tenant where
  Name : List UInt8
  Key : List (Int)
  P : Policy
  Pause : Pause
  Floor : Floor
  Epoch : Int

structure Moment where
  Nano : Int
  Off : Int

structure Time where
  H : Int
  M : Int
  S : Int

structure Date where
  Y : Int
  M : Int
  D : Int

structure Reading where
  Value : Int
  Bound : Int
  Raised : Int
  Host : Int

inductive K | byte | err | int | kRule | str
  deriving DecidableEq

abbrev Ty : K → Type
  | .byte => Int
  | .err => Option Int
  | .int => Int
  | .kRule => Rule
  | .str => List UInt8

abbrev shRule : List (Sh K) := [.int .i64, .int .i64, .str]
abbrev shZone : List (Sh K) := [.str, .int .i64, .sl .kRule]
abbrev shSmear : List (Sh K) := [.int .i64, .int .i64, .int .i64]
abbrev shFuzz : List (Sh K) := [.int .i64, .int .i64]
abbrev shPolicy : List (Sh K) := [.int .i64, .int .i64, .int .i64, .int .i64, .int .i64, .int .i64, .bool, .str, .int .i64, .sl .kRule]
abbrev shPause : List (Sh K) := [.bool, .int .i64, .int .i64]
abbrev shFloor : List (Sh K) := [.bool, .int .i64]
abbrev shTenant : List (Sh K) := [.str, .arr .byte 16, .int .i64, .int .i64, .int .i64, .int .i64, .int .i64, .int .i64, .bool, .str, .int .i64, .sl .kRule, .bool, .int .i64, .int .i64, .bool, .int .i64, .int .i64]
abbrev shMoment : List (Sh K) := [.int .i64, .int .i64]
abbrev shTime : List (Sh K) := [.int .i64, .int .i64, .int .i64]
abbrev shDate : List (Sh K) := [.int .i64, .int .i64, .int .i64]
abbrev shReading : List (Sh K) := [.int .i64, .int .i64, .int .i64, .int .i64]

abbrev sh : K → List (Sh K)
  | .byte => [.int .u8]
  | .err => [.err]
  | .int => [.int .i64]
  | .kRule => shRule
  | .str => [.str]

def flRule (x : Rule) : Ds Ty shRule := (x.At, x.Off, x.Name, ())
def unRule (d : Ds Ty shRule) : Rule := (⟨d.1, d.2.1, d.2.2.1⟩ : Rule)
def flZone (x : Zone) : Ds Ty shZone := (x.Name, x.First, x.L, ())
def unZone (d : Ds Ty shZone) : Zone := (⟨d.1, d.2.1, d.2.2.1⟩ : Zone)
def flSmear (x : Smear) : Ds Ty shSmear := (x.Kind, x.Before, x.After, ())
def unSmear (d : Ds Ty shSmear) : Smear := (⟨d.1, d.2.1, d.2.2.1⟩ : Smear)
def flFuzz (x : Fuzz) : Ds Ty shFuzz := (x.Width, x.Cell, ())
def unFuzz (d : Ds Ty shFuzz) : Fuzz := (⟨d.1, d.2.1⟩ : Fuzz)
def flPolicy (x : Policy) : Ds Ty shPolicy := (x.Smear.Kind, x.Smear.Before, x.Smear.After, x.Quantum, x.Fuzz.Width, x.Fuzz.Cell, x.Jump, x.Zone.Name, x.Zone.First, x.Zone.L, ())
def unPolicy (d : Ds Ty shPolicy) : Policy := (⟨(⟨d.1, d.2.1, d.2.2.1⟩ : Smear), d.2.2.2.1, (⟨d.2.2.2.2.1, d.2.2.2.2.2.1⟩ : Fuzz), d.2.2.2.2.2.2.1, (⟨d.2.2.2.2.2.2.2.1, d.2.2.2.2.2.2.2.2.1, d.2.2.2.2.2.2.2.2.2.1⟩ : Zone)⟩ : Policy)
def flPause (x : Pause) : Ds Ty shPause := (x.On, x.At, x.Lost, ())
def unPause (d : Ds Ty shPause) : Pause := (⟨d.1, d.2.1, d.2.2.1⟩ : Pause)
def flFloor (x : Floor) : Ds Ty shFloor := (x.Set, x.At, ())
def unFloor (d : Ds Ty shFloor) : Floor := (⟨d.1, d.2.1⟩ : Floor)
def flTenant (x : Tenant) : Ds Ty shTenant := (x.Name, x.Key, x.P.Smear.Kind, x.P.Smear.Before, x.P.Smear.After, x.P.Quantum, x.P.Fuzz.Width, x.P.Fuzz.Cell, x.P.Jump, x.P.Zone.Name, x.P.Zone.First, x.P.Zone.L, x.Pause.On, x.Pause.At, x.Pause.Lost, x.Floor.Set, x.Floor.At, x.Epoch, ())
def unTenant (d : Ds Ty shTenant) : Tenant := (⟨d.1, d.2.1, (⟨(⟨d.2.2.1, d.2.2.2.1, d.2.2.2.2.1⟩ : Smear), d.2.2.2.2.2.1, (⟨d.2.2.2.2.2.2.1, d.2.2.2.2.2.2.2.1⟩ : Fuzz), d.2.2.2.2.2.2.2.2.1, (⟨d.2.2.2.2.2.2.2.2.2.1, d.2.2.2.2.2.2.2.2.2.2.1, d.2.2.2.2.2.2.2.2.2.2.2.1⟩ : Zone)⟩ : Policy), (⟨d.2.2.2.2.2.2.2.2.2.2.2.2.1, d.2.2.2.2.2.2.2.2.2.2.2.2.2.1, d.2.2.2.2.2.2.2.2.2.2.2.2.2.2.1⟩ : Pause), (⟨d.2.2.2.2.2.2.2.2.2.2.2.2.2.2.2.1, d.2.2.2.2.2.2.2.2.2.2.2.2.2.2.2.2.1⟩ : Floor), d.2.2.2.2.2.2.2.2.2.2.2.2.2.2.2.2.2.1⟩ : Tenant)
def flMoment (x : Moment) : Ds Ty shMoment := (x.Nano, x.Off, ())
def unMoment (d : Ds Ty shMoment) : Moment := (⟨d.1, d.2.1⟩ : Moment)
def flTime (x : Time) : Ds Ty shTime := (x.H, x.M, x.S, ())
def unTime (d : Ds Ty shTime) : Time := (⟨d.1, d.2.1, d.2.2.1⟩ : Time)
def flDate (x : Date) : Ds Ty shDate := (x.Y, x.M, x.D, ())
def unDate (d : Ds Ty shDate) : Date := (⟨d.1, d.2.1, d.2.2.1⟩ : Date)
def flReading (x : Reading) : Ds Ty shReading := (x.Value, x.Bound, x.Raised, x.Host, ())
def unReading (d : Ds Ty shReading) : Reading := (⟨d.1, d.2.1, d.2.2.1, d.2.2.2.1⟩ : Reading)

abbrev G (e : TypeId) (g : List (Nat × (Array Value → Prop))) : Sig where
  K := K
  dec := inferInstance
  Ty := Ty
  sh := sh
  es := fun
    | .byte => 1
    | .err => 1
    | .int => 1
    | .kRule => 3
    | .str => 1
  to := fun
    | .byte => fun (x : Int) => (x, ())
    | .err => fun (x : Option Int) => (x, ())
    | .int => fun (x : Int) => (x, ())
    | .kRule => fun (x : Rule) => flRule x
    | .str => fun (x : List UInt8) => (x, ())
  of := fun
    | .byte => fun (d : Ds Ty (sh .byte)) => d.1
    | .err => fun (d : Ds Ty (sh .err)) => d.1
    | .int => fun (d : Ds Ty (sh .int)) => d.1
    | .kRule => fun (d : Ds Ty (sh .kRule)) => unRule d
    | .str => fun (d : Ds Ty (sh .str)) => d.1
  toof := by intro k d; cases k <;> rfl
  errT := e
  glob := g

def zeroK : (k : K) → Ty k
  | .byte => (0 : Int)
  | .err => (none : Option Int)
  | .int => (0 : Int)
  | .kRule => (⟨(0 : Int), (0 : Int), ([] : List UInt8)⟩ : Rule)
  | .str => ([] : List UInt8)

def aggKinds : K → Bool
  | .kRule => true
  | _ => false

def limK : K → Nat
  | .byte => 2 ^ 46
  | _ => 2 ^ 32

def FUEL : Nat := 1180591620717411303424

abbrev wi64 (x : Int) : Int := IntKind.wrap .i64 x
abbrev wi32 (x : Int) : Int := IntKind.wrap .i32 x
abbrev wi16 (x : Int) : Int := IntKind.wrap .i16 x
abbrev wi8 (x : Int) : Int := IntKind.wrap .i8 x
abbrev wu64 (x : Int) : Int := IntKind.wrap .u64 x
abbrev wu32 (x : Int) : Int := IntKind.wrap .u32 x
abbrev wu16 (x : Int) : Int := IntKind.wrap .u16 x
abbrev wu8 (x : Int) : Int := IntKind.wrap .u8 x

end Vm.Fu
end

section
namespace Vm.Fu
open Go

def law_num : Option Int → Option Int
  | none => some 0
  | some n => bif n == foreign then none else some n

def strings_Repeat (s : List UInt8) (n : Int) : Option (List UInt8) :=
  bif decide (0 ≤ n) && Nat.ble (s.length * n.toNat) 140737488355328 && Nat.ble n.toNat 9223372036854775807 then some (Lib.repeatL s n.toNat) else none

def int64 (n : Int) : Bool := decide (-9223372036854775808 ≤ n) && decide (n ≤ 9223372036854775807)

def strconv_Itoa (n : Int) : Option (List UInt8) := bif int64 n then some (Lib.itoa n) else none

def strconv_FormatInt (n b : Int) : Option (List UInt8) := bif (b == 10) && int64 n then some (Lib.itoa n) else none

def strings_TrimRight (s cs : List UInt8) : Option (List UInt8) := match cs with
  | [c] => bif Nat.blt c.toNat 128 && Nat.ble s.length 9223372036854775807 then some (Lib.trimRightB s c) else none
  | _ => none

def strings_TrimLeft (s cs : List UInt8) : Option (List UInt8) := bif cs.all (fun c => Nat.blt c.toNat 128) && Nat.ble s.length 9223372036854775807 && Nat.ble 1 cs.length && Nat.ble cs.length 1000 then some (Lib.trimLeftS s cs) else none

def strings_Split (s sep : List UInt8) : Option (List (List UInt8)) := bif Nat.blt s.length 4294967281 && Nat.ble 1 sep.length then some (Lib.split s sep) else none

def strings_Cut (s sep : List UInt8) : Option (List UInt8 × List UInt8 × Bool) := bif Nat.blt s.length 4294967281 then some (Lib.cut s sep) else none

def strconv_Atoi (s : List UInt8) : Option (Int × Option Int) := bif Nat.ble s.length 281474976710656 then some (match Lib.atoiAll s with
  | .ok v => (v, none)
  | .range => (Lib.atoiSat s, some foreign)
  | _ => (0, some foreign)) else none

def strconv_ParseInt (s : List UInt8) (b n : Int) : Option (Int × Option Int) :=
  bif Nat.ble s.length 281474976710656 && (b == 10) && ((n == 8) || (n == 64)) then some (match Lib.parseIntB n.toNat s with
  | .ok v => (v, none)
  | .range => (Lib.intSat n.toNat s, some foreign)
  | _ => (0, some foreign)) else none

end Vm.Fu
end
