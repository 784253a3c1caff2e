/-
  The abstract program of the seat: its functions, what is taken as given of the library (and of the one function that ranges over a map), its tables.
-/
import Derived.Test.YtgdcfgpddgedkaaDoorAbsIr
import Derived.Lib.ItoaNum
import Derived.Lib.AtoiAll
namespace Go.Proofs.YtgdcfgpddgedkaaDoor
open Go Go.Abs Go.Proofs

def digitsF : Nat → Nat → List UInt8 → List UInt8
  | 0, _, acc => acc
  | f + 1, n, acc => cond (Nat.blt n 10) (UInt8.ofNat (48 + n) :: acc) (digitsF f (n / 10) (UInt8.ofNat (48 + n % 10) :: acc))

def itoaF (n : Int) : List UInt8 :=
  match n with
  | .ofNat k => digitsF (k + 1) k []
  | .negSucc k => 45 :: digitsF (k + 2) (k + 1) []

def indexF (c : Int) : Nat → List UInt8 → Int
  | _, [] => -1
  | k, b :: r => cond (decide ((b.toNat : Int) = c)) k (indexF c (k + 1) r)

def intsOf : List (List AV) → Option (List Int)
  | [] => some []
  | [.int .i64 n] :: r => (intsOf r).map (n :: ·)
  | _ => none

/-- The approvals that count: each once, without the author's. -/
def others (author : Int) : List Int → List Int
  | [] => []
  | x :: r => cond (decide (x = author) || r.elem x) (others author r) (x :: others author r)

/-- A rule's number and names. -/
def ruleOf : List AV → Option (Int × List Int)
  | [.str _, .str _, .int .i64 n, .slice ws _] => (intsOf ws).bind fun xs => cond (Nat.ble xs.length 4611686018427387904) (some (n, xs)) none
  | _ => none

def rulesOf : List (List AV) → Option (List (Int × List Int))
  | [] => some []
  | r :: rs => (ruleOf r).bind fun x => (rulesOf rs).map fun l => x :: l

/-- Is one rule met? -/
def met (others : List Int) (r : Int × List Int) : Bool := decide (r.1 ≤ (((others.filter fun x => r.2.elem x).length : Nat) : Int))

def all64 (l : List Int) : Bool := l.all fun n => decide (-9223372036854775808 ≤ n) && decide (n ≤ 9223372036854775807)

def ovEnough (args : List AV) (_ : AHeap) : Option (AV × Option Chg) :=
  match args with
  | [.slice l _, .int .i64 author, .slice who _] => (intsOf who).bind fun ws => (rulesOf l).bind fun rs =>
    cond (Nat.ble ws.length 4611686018427387904 && Nat.ble rs.length 4611686018427387904 && all64 ws) (some (.bool (rs.all (met (others author ws))), none)) none
  | _ => none

def ovItoa (args : List AV) (_ : AHeap) : Option (AV × Option Chg) :=
  match args with
  | [.int .i64 n] => cond (decide (-9223372036854775808 ≤ n) && decide (n ≤ 9223372036854775807)) (some (.str (itoaF n), none)) none
  | _ => none

def ovAtoi (args : List AV) (_ : AHeap) : Option (AV × Option Chg) :=
  match args with
  | [.str l] => cond (Nat.ble l.length 281474976710656) (match Lib.atoiAll l with
    | .ok v => some (.tuple [.int .i64 v, .niliface], none)
    | .range => some (.tuple [.int .i64 (Lib.atoiSat l), .iface 114 .any], none)
    | _ => some (.tuple [.int .i64 0, .iface 114 .any], none)) none
  | _ => none

def ovIndexByte (args : List AV) (_ : AHeap) : Option (AV × Option Chg) :=
  match args with
  | [.str l, .int .u8 c] => cond (decide (0 ≤ c) && decide (c < 256)) (some (.int .i64 (indexF c 0 l), none)) none
  | _ => none

/-- All are bytes. -/
def byteRange (e : List (List AV)) : Bool := e.all fun r => match r with | [.int .u8 n] => decide (0 ≤ n) && decide (n < 256) | _ => false

/-- A Builder's text. -/
def ovString (args : List AV) (H : AHeap) : Option (AV × Option Chg) :=
  match args with
  | [.ref l 0] => match H[l]? with
    | some (.box 80 [_, .slice e true]) => cond (Nat.ble e.length 4611686018427387904 && byteRange e) ((bytesOf e).map fun b => (.str b, none)) none
    | _ => none
  | _ => none

/-- A Builder's own address. -/
def ovCopyCheck (args : List AV) (H : AHeap) : Option (AV × Option Chg) :=
  match args with
  | [.ref l 0] => match H[l]? with
    | some (.box 80 [.nilptr, x]) => some (.undef, some ⟨H.set l (.box 80 [.ref l 0, x]), l⟩)
    | some (.box 80 [.ref l' 0, _]) => cond (Nat.beq l l') (some (.undef, none)) none
    | _ => none
  | _ => none

def ov : FuncId → Option (List AV → AHeap → Option (AV × Option Chg))
  | 22 => some ovEnough
  | 39 => some ovItoa
  | 40 => some ovString
  | 53 => some ovCopyCheck
  | 56 => some ovIndexByte
  | 58 => some ovAtoi
  | _ => none

def fns : FuncId → Option IFunc
  | 3 => some ir3
  | 4 => some ir4
  | 5 => some ir5
  | 6 => some ir6
  | 8 => some ir8
  | 9 => some ir9
  | 10 => some ir10
  | 11 => some ir11
  | 12 => some ir12
  | 13 => some ir13
  | 14 => some ir14
  | 15 => some ir15
  | 16 => some ir16
  | 17 => some ir17
  | 18 => some ir18
  | 19 => some ir19
  | 20 => some ir20
  | 21 => some ir21
  | 23 => some ir23
  | 24 => some ir24
  | 26 => some ir26
  | 27 => some ir27
  | 28 => some ir28
  | 29 => some ir29
  | 30 => some ir30
  | 31 => some ir31
  | 32 => some ir32
  | 33 => some ir33
  | 34 => some ir34
  | 35 => some ir35
  | 36 => some ir36
  | 37 => some ir37
  | 38 => some ir38
  | 41 => some ir41
  | 42 => some ir42
  | 43 => some ir43
  | 44 => some ir44
  | 45 => some ir45
  | 46 => some ir46
  | 47 => some ir47
  | 48 => some ir48
  | 49 => some ir49
  | 50 => some ir50
  | 51 => some ir51
  | 52 => some ir52
  | 57 => some ir57
  | 59 => some ir59
  | 63 => some ir63
  | 108 => some ir108
  | 109 => some ir109
  | _ => none

/-- The type of the library's errors of text. -/
def teErr : TypeId := 133

/-- The kinds of operations. -/
def kindsS : List (List UInt8) := [[109, 97, 107, 101], [109, 97, 107, 101], [109, 97, 107, 101], [116, 121, 112, 101], [98, 111, 100, 121], [110, 97, 109, 101], [109, 111, 118, 101], [109, 111, 118, 101], [109, 97, 107, 101], [116, 121, 112, 101], [116, 121, 112, 101], [98, 111, 100, 121], [98, 111, 100, 121], [108, 97, 121, 111, 117, 116]]
/-- The keywords. -/
def keywordsS : List (List UInt8) := [[109, 111, 100, 117, 108, 101], [117, 115, 101], [114, 101, 99], [99, 97, 115, 101], [102, 117, 110], [111, 110], [116, 101, 115, 116], [99, 111, 110, 118], [116, 114, 117, 101], [102, 97, 108, 115, 101], [110, 111, 116], [97, 110, 100], [111, 114], [105, 102], [116, 104, 101, 110], [101, 108, 115, 101], [108, 101, 116], [105, 110], [109, 97, 116, 99, 104], [102, 111, 108, 100], [111, 118, 101, 114], [100, 111], [108, 101, 110], [106, 111, 105, 110], [76, 105, 115, 116], [73, 110, 116], [66, 111, 111, 108]]
/-- The signs. -/
def signsS : List (List UInt8) := [[61, 61], [45, 62], [40], [41], [123], [125], [91], [93], [44], [58], [46], [61], [43], [45], [42], [47], [37], [60]]

def tab : Nat → List AV
  | 0 => kindsS.map .str
  | 1 => keywordsS.map .str
  | 2 => [.func (.func 52) [] [], .func (.func 108) [] [], .func (.func 109) [] [], .func (.func 109) [] []]
  | 3 => signsS.map .str
  | 4 => Lib.pow10Tab.map (.int .u64)
  | 6 => [.iface teErr .any]
  | 7 => [.iface teErr .any]
  | _ => []

def A : AP := { fns, ov, glob := tab }

theorem lives_run : evF A 200 17 [] [] = some (.bool true, none) := by kernel_rfl

end Go.Proofs.YtgdcfgpddgedkaaDoor
