/- The plain functions that package getopt's own functions come to: a spec's scan, a cluster, the loop over the arguments, Join and Usage; over lists of bytes. No walk in it. -/
import Derived.Test.YtcmicndmaaaknaaG0
namespace Go.Proofs.Ytcmicndmaaaknaa.G
open Go.RowKit Go.Proofs.YtcmicndmaaaknaaW.PrintWords

def mkB (l : List UInt8) : ByteArray := ⟨l.toArray⟩
def oneB (b : UInt8) : ByteArray := mkB [b]

/-- may a byte be an option's letter? -/
def isLet (b : UInt8) : Bool := (decide (97 ≤ b.toNat) && decide (b.toNat ≤ 122)) || ((decide (65 ≤ b.toNat) && decide (b.toNat ≤ 90)) || (decide (48 ≤ b.toNat) && decide (b.toNat ≤ 57)))

/-- the spec's bytes, behind the plus: letters, those that take an argument -/
def scan : List UInt8 → List UInt8 → List UInt8 → Bool → Option (List UInt8 × List UInt8)
  | [], ls, ts, _ => some (ls, ts)
  | b :: r, ls, ts, last =>
    if b.toNat = 58 ∧ last = true then scan r ls (ts ++ ls.drop (ls.length - 1)) false
    else if isLet b = true ∧ ls.contains b = false then scan r (ls ++ [b]) ts true else none

def plus (s : List UInt8) : Bool := match s with | b :: _ => b.toNat == 43 | [] => false
def strip (s : List UInt8) : List UInt8 := if plus s then s.drop 1 else s

/-- what getopt.parse comes to -/
def specOf (s : ByteArray) : Option (Bool × List UInt8 × List UInt8) := (scan (strip s.data.toList) [] [] false).map fun p => (plus s.data.toList, p.1, p.2)

/-- a cluster's bytes: what may not be, or the options and the arguments that are left -/
def clus (ls ts : List UInt8) : List UInt8 → List ByteArray → List S67 → (ByteArray × Bool) ⊕ (List S67 × List ByteArray)
  | [], args, os => .inr (os, args)
  | b :: r, args, os =>
    if ls.contains b = false then .inl (oneB b, false)
    else if ts.contains b = false then clus ls ts r args (os ++ [⟨oneB b, mkB []⟩])
    else if r.isEmpty = false then .inr (os ++ [⟨oneB b, mkB r⟩], args)
    else match args with
      | [] => .inl (oneB b, true)
      | x :: args' => .inr (os ++ [⟨oneB b, x⟩], args')

def dashes (a : ByteArray) : Bool := a.data.toList == [45, 45]
def isClus (a : ByteArray) : Bool := decide (1 < a.size) && (match a.data.toList with | b :: _ => b.toNat == 45 | [] => false)

/-- the loop over the arguments -/
def ploop (fi : Bool) (ls ts : List UInt8) : Nat → List ByteArray → List S67 → List ByteArray → List S67 × List ByteArray × ByteArray × Bool × Int
  | 0, _, os, rs => (os, rs, mkB [], false, 0)
  | _ + 1, [], os, rs => (os, rs, mkB [], false, 0)
  | k + 1, a :: args, os, rs =>
    if dashes a = true then (os, rs ++ args, mkB [], false, 0)
    else if isClus a = true then
      match clus ls ts (a.data.toList.drop 1) args os with
      | .inl (n, m) => ([], [], n, m, 100)
      | .inr (os', args') => ploop fi ls ts k args' os' rs
    else if fi = true then (os, (rs ++ [a]) ++ args, mkB [], false, 0)
    else ploop fi ls ts k args os (rs ++ [a])

def weight (l : List ByteArray) : Nat := (l.map (fun a => a.size + 1)).sum

def getopt_Parse.f (a0 : ByteArray) (l1 : List ByteArray) : Option (List S67 × List ByteArray × ByteArray × Bool × Int) :=
  if weight l1 ≤ 1099511627776 ∧ a0.size ≤ 140737488355328 then
    match specOf a0 with
    | none => some ([], [], mkB [], false, 22)
    | some (fi, ls, ts) => some (ploop fi ls ts l1.length l1 [] [])
  else none

/-- strings.Contains at a text of one byte -/
def strings_Contains.f (a0 a1 : ByteArray) : Option Bool :=
  match a1.data.toList with
  | [b] => some (a0.data.toList.contains b)
  | _ => none

/-- Join's loop -/
def jloop (ls ts : List UInt8) : List S67 → List ByteArray → Option (List ByteArray)
  | [], out => some out
  | o :: r, out =>
    match o.f0.data.toList with
    | [b] =>
      if ls.contains b = false then none
      else if ts.contains b = false then (if o.f1.size = 0 then jloop ls ts r (out ++ [mkB [45, b]]) else none)
      else jloop ls ts r (out ++ [mkB [45, b]] ++ [o.f1])
    | _ => none

def getopt_Join.f (a0 : ByteArray) (l1 : List S67) (l2 : List ByteArray) : Option (List ByteArray × Int) :=
  if l1.length + l2.length ≤ 1099511627776 ∧ a0.size ≤ 140737488355328 then
    match specOf a0 with
    | none => some ([], 22)
    | some (_, ls, ts) =>
      match jloop ls ts l1 [] with
      | none => some ([], 22)
      | some out => some ((out ++ [mkB [45, 45]]) ++ l2, 0)
  else none

/-- Usage: the plain letters, and the texts of those with an argument -/
def uparts (ts : List UInt8) : List UInt8 → List UInt8 → List (List UInt8) → List UInt8 × List (List UInt8)
  | [], p, l => (p, l)
  | b :: r, p, l => if ts.contains b = true then uparts ts r p (l ++ [[91, 45, b, 32, 97, 114, 103, 93]]) else uparts ts r (p ++ [b]) l

def joinSp : List (List UInt8) → List UInt8
  | [] => []
  | [x] => x
  | x :: y :: r => x ++ 32 :: joinSp (y :: r)

def usageText (ls ts : List UInt8) : List (List UInt8) :=
  if (uparts ts ls [] []).1.isEmpty then (uparts ts ls [] []).2 else ([91, 45] ++ (uparts ts ls [] []).1 ++ [93]) :: (uparts ts ls [] []).2

def getopt_Usage.f (a0 : ByteArray) : Option (ByteArray × Int) :=
  if a0.size ≤ 140737488355328 then
    match specOf a0 with
    | none => some (mkB [], 22)
    | some (_, ls, ts) => some (mkB (joinSp (usageText ls ts)), 0)
  else none

end Go.Proofs.Ytcmicndmaaaknaa.G
