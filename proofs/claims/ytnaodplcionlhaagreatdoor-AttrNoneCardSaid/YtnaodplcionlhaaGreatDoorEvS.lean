/- Ev: regions whose order is drawn: the evaluator goes one way, and checks that every way comes to the same. -/
import Derived.Test.YtnaodplcionlhaaGreatDoorEvR
namespace Go.Ev
noncomputable section
set_option linter.unusedVariables false
set_option linter.unusedSimpArgs false

/-- 0: neither reads nor writes; 1: reads; 2: makes a row of zeros; 3: more; 4: never in a drawn region -/
def dkind (op : Op) : Nat :=
  match op with
  | .alloc _ => 2
  | .makeSlice _ _ _ => 2
  | .load _ _ => 1
  | .defer _ => 4
  | .convert _ _ _ => 0
  | .lookup _ _ _ _ => 3
  | op => match isDry op with
    | true => 0
    | false => 3
def maskOf (M : List Nat) : List Edge → Nat
  | [] => 0
  | e :: r => match Region.binds .any e with
    | true => Nat.lor (maskOf M r) (Nat.lor (Nat.pow 2 e.on) (M.getD e.on 0))
    | false => maskOf M r
def masks : List Oper → List Nat → List Nat
  | [], acc => acc
  | o :: l, acc => masks l (acc ++ [maskOf acc o.after.toList])
def bef (M : List Nat) (i j : Nat) : Bool := Nat.beq (Nat.land (Nat.shiftRight (M.getD j 0) i) 1) 1
def bOr (a b : Bool) : Bool := @Bool.rec (fun _ => Bool) b true a
def bAnd (a b : Bool) : Bool := @Bool.rec (fun _ => Bool) false b a
theorem bOr_eq (a b : Bool) : bOr a b = (a || b) := by cases a <;> rfl
theorem bAnd_eq (a b : Bool) : bAnd a b = (a && b) := by cases a <;> rfl
def has (l : List Nat) (t : Nat) : Bool := @List.rec Nat (fun _ => Bool) false (fun x _ ih => bOr (Nat.beq x t) ih) l
theorem has_cons (x : Nat) (l : List Nat) (t : Nat) : has (x :: l) t = (Nat.beq x t || has l t) := by
  show bOr _ _ = _
  rw [bOr_eq]; rfl

/-! ### what is checked once and for all -/
def okMask (l : List Oper) (M : List Nat) (i : Nat) : Bool :=
  match l[i]? with
  | none => true
  | some o => Nat.beq (M.getD i 0) (maskOf M o.after.toList) && o.after.toList.all fun e => !Region.binds .any e || Nat.ble (e.on + 1) i
def looksD (ops : Array Oper) (o : Oper) : List Tmp := o.looksAt ops ++ o.dst.toList
def okT1 (M : List Nat) (i k : Nat) (looks : List Nat) (d : Option Tmp) : Bool :=
  @Option.rec Tmp (fun _ => Bool) true (fun t => @Bool.rec (fun _ => Bool) true (bOr (Nat.beq i k) (bOr (bef M i k) (bef M k i))) (has looks t)) d
def okTmpL (M : List Nat) (i : Nat) (looks : List Nat) (l : List Oper) : Nat → Bool :=
  @List.rec Oper (fun _ => Nat → Bool) (fun _ => true) (fun p _ ih k => bAnd (okT1 M i k looks p.dst) (ih (Nat.succ k))) l
def okTmps (ops : Array Oper) (M : List Nat) (l : List Oper) : Nat → Bool :=
  @List.rec Oper (fun _ => Nat → Bool) (fun _ => true) (fun o _ ih k => bAnd (okTmpL M k (looksD ops o) ops.toList 0) (ih (Nat.succ k))) l
def isHv (l : List Oper) (i : Nat) : Bool :=
  match l[i]? with
  | some o => Nat.beq (dkind o.op) 3
  | none => false
def isZero (l : List Oper) (i : Nat) : Bool :=
  match l[i]? with
  | some o => Nat.beq (dkind o.op) 2
  | none => false
def hvs (l : List Oper) : List Nat := (List.range l.length).filter (isHv l)
/-- each of them ahead of all that come behind it -/
def chain (M : List Nat) : List Nat → Bool
  | [] => true
  | i :: r => r.all (bef M i) && chain M r
def allPairs (l : List Nat) (p : Nat → Nat → Bool) : Bool := l.all fun i => l.all fun j => p i j
/-- an order in which each operation's edges are behind it: no way ends ahead of the last -/
def okOrd (md : Region.Mode) (l : List Oper) : List Nat → Nat → Bool
  | [], done => (List.range l.length).all fun i => Nat.testBit done i
  | i :: r, done => match l[i]? with
    | none => false
    | some o => (o.after.toList.all fun e => !Region.binds md e || Nat.testBit done e.on) && okOrd md l r (Nat.lor done (Nat.pow 2 i))
def greedyPick (md : Region.Mode) (l : List Oper) (good : Nat → Bool) (done : Nat) : List Nat → Option Nat
  | [] => none
  | i :: r => match l[i]? with
    | none => greedyPick md l good done r
    | some o => match !Nat.testBit done i && good i && (o.after.toList.all fun e => !Region.binds md e || Nat.testBit done e.on) with
      | true => some i
      | false => greedyPick md l good done r
def greedy (md : Region.Mode) (l : List Oper) (good : Nat → Bool) : Nat → Nat → List Nat
  | 0, _ => []
  | n + 1, done => match greedyPick md l good done (List.range l.length) with
    | some i => i :: greedy md l good n (Nat.lor done (Nat.pow 2 i))
    | none => match greedyPick md l (fun _ => true) done (List.range l.length) with
      | some i => i :: greedy md l good n (Nat.lor done (Nat.pow 2 i))
      | none => []
def plan (l : List Oper) : List Nat := greedy .any l (fun i => !isHv l i) l.length 0
/-- all that hangs on the code alone -/
def static (ops : Array Oper) (M : List Nat) : Bool :=
  (List.range ops.toList.length).all (okMask ops.toList M) && okTmps ops M ops.toList 0 &&
  okOrd .text ops.toList (List.range ops.toList.length) 0 && (okOrd .gc ops.toList (List.range ops.toList.length) 0 || okOrd .gc ops.toList (greedy .gc ops.toList (fun _ => true) ops.toList.length 0) 0)

/-! ### the way that is gone -/
/-- who wrote a temporary last, as operation i sees it -/
def src (M : List Nat) (i t : Nat) (l : List Oper) : Nat → Option Nat → Option Nat :=
  @List.rec Oper (fun _ => Nat → Option Nat → Option Nat) (fun _ acc => acc)
    (fun o _ ih k acc => ih (Nat.succ k) (@Option.rec Tmp (fun _ => Option Nat) acc (fun d => @Bool.rec (fun _ => Option Nat) acc (some k) (bAnd (Nat.beq d t) (bef M k i))) o.dst)) l
def pvf (ops : Array Oper) (o : Oper) (M : List Nat) (tm vals : Trie Value) (i t : Nat) : Option Value :=
  @Bool.rec (fun _ => Option Value) none (@Option.rec Nat (fun _ => Option Value) (tval tm t) (fun k => vals.get k) (src M i t ops.toList 0 none)) (has (looksD ops o) t)
def cons1 (cur : AH) (r : Option (Trie Value × List AH)) : Option (Trie Value × List AH) :=
  match r with
  | none => none
  | some (v, l) => some (v, cur :: l)
def pass (C : Ctx) (rec_ : Task → Option Res) (rd : Option Nat) (ops : Array Oper) (M : List Nat) (tm : Trie Value) (df : List ADef) : List Nat → Trie Value → AH → Bool → Option (Trie Value × List AH)
  | [], vals, cur, _ => some (vals, [cur])
  | i :: l, vals, cur, seen => match ops.toList[i]? with
    | none => none
    | some o => match vals.get i with
      | some _ => none
      | none => match want ops (pvf ops o M tm vals i) o with
        | none => none
        | some false => match vals.put D i (some undef) with
          | none => none
          | some vals' => match dkind o.op with
            | 0 => pass C rec_ rd ops M tm df l vals' cur seen
            | 1 => pass C rec_ rd ops M tm df l vals' cur seen
            | 3 => cons1 cur (pass C rec_ rd ops M tm df l vals' cur true)
            | _ => none
        | some true => match dkind o.op with
          | 0 => match adry C.P (evl C.G (pvf ops o M tm vals i)) o.op with
            | none => none
            | some v => match vals.put D i (some v) with
              | none => none
              | some vals' => pass C rec_ rd ops M tm df l vals' cur seen
          | 1 => match aread C.P cur (evl C.G (pvf ops o M tm vals i)) o.op with
            | none => none
            | some v => match vals.put D i (some v) with
              | none => none
              | some vals' => pass C rec_ rd ops M tm df l vals' cur seen
          | 2 => match seen with
            | true => none
            | false => match azeros C.P C.G cur (evl C.G (pvf ops o M tm vals i)) o.op with
              | none => none
              | some (v, cur') => match vals.put D i (some v) with
                | none => none
                | some vals' => pass C rec_ rd ops M tm df l vals' cur' false
          | 3 => match evOp C rec_ rd o.op (evl C.G (pvf ops o M tm vals i)) df cur with
            | some (.val v _ cur') => match vals.put D i (some v) with
              | none => none
              | some vals' => cons1 cur (pass C rec_ rd ops M tm df l vals' cur' true)
            | _ => none
          | _ => none

/-! ### what is checked of the way -/
mutual
def veq : Nat → Value → Value → Bool
  | 0, _, _ => false
  | n + 1, a, b => match a, b with
    | .bool x, .bool y => x == y
    | .int k x, .int j y => Nat.beq (kidx k) (kidx j) && decide (x = y)
    | .string x, .string y => decide (x.data.toList = y.data.toList)
    | .pointer none, .pointer none => true
    | .pointer (some ⟨b, o, none⟩), .pointer (some ⟨b', o', none⟩) => Nat.beq b b' && Nat.beq o o'
    | .slice none n c, .slice none n' c' => Nat.beq n n' && Nat.beq c c'
    | .slice (some ⟨b, o, none⟩) n c, .slice (some ⟨b', o', none⟩) n' c' => Nat.beq b b' && Nat.beq o o' && Nat.beq n n' && Nat.beq c c'
    | .slice (some ⟨b, o, some s⟩) n c, .slice (some ⟨b', o', some s'⟩) n' c' => Nat.beq b b' && Nat.beq o o' && Nat.beq s s' && Nat.beq n n' && Nat.beq c c'
    | .map none, .map none => true
    | .map (some a), .map (some b) => Nat.beq a b
    | .nilIface, .nilIface => true
    | .nilFunc, .nilFunc => true
    | .chan (some a), .chan (some b) => Nat.beq a b
    | .func (.func f) a c, .func (.func g) a' c' => Nat.beq f g && veq.veqL n a.toList a'.toList && veq.veqL n c.toList c'.toList
    | .iface t v, .iface u w => Nat.beq t u && veq n v w
    | .agg x, .agg y => veq.veqL n x.toList y.toList
    | .tuple x, .tuple y => veq.veqL n x.toList y.toList
    | _, _ => false
def veq.veqL : Nat → List Value → List Value → Bool
  | 0, _, _ => false
  | _ + 1, [], [] => true
  | n + 1, a :: l, b :: m => veq n a b && veq.veqL n l m
  | _ + 1, _, _ => false
end

def nameOf (v : Value) : Option Nat :=
  match v with
  | .pointer (some ⟨b, 0, none⟩) => some b
  | .slice (some ⟨b, 0, none⟩) _ _ => some b
  | _ => none
def isUndef (v : Value) : Bool :=
  match v with
  | .tuple a => a.toList.isEmpty
  | _ => false
def zeroRow (h : AH) (b n : Nat) (e : TypeId) : Bool :=
  match h.blks.get b with
  | some (.row ⟨.nil, n', e', true⟩) => Nat.beq n n' && Nat.beq e e'
  | _ => false
def countB (l : List Nat) (p : Nat → Bool) : Nat := (l.filter p).length
def vfuel : Nat := 2000
def okRead (C : Ctx) (M : List Nat) (vF : Trie Value) (Hs : List AH) (hv : List Nat) (i : Nat) (ev : Operand → Option Value) (op : Op) (v : Value) (q : Nat) : Bool :=
  Nat.ble (q + 1) (countB hv fun j => bef M j i) || Nat.ble (hv.length + 1) (q + countB hv fun j => bef M i j) || (match Hs[q]? with
    | some H => match aread C.P H ev op with
      | some u => veq vfuel u v
      | none => false
    | none => false)
def okZeroAt (M : List Nat) (Hs : List AH) (hv : List Nat) (i N n : Nat) (e : TypeId) (q : Nat) : Bool :=
  Nat.ble (hv.length + 1) (q + countB hv fun j => bef M i j) || (match Hs[q]? with
    | some H => zeroRow H N n e
    | none => false)
def okZero (C : Ctx) (M : List Nat) (h : AH) (Hs : List AH) (hv : List Nat) (i : Nat) (ev : Operand → Option Value) (op : Op) (v : Value) : Bool :=
  match azero C.P ev op, nameOf v with
  | some (e, n, k), some N => veq vfuel (zval N k) v && Nat.ble h.next N && Nat.ble C.G N && (match Hs[0]? with | some H => Nat.ble (N + 1) H.next | none => false) &&
    (List.range (hv.length + 1)).all (okZeroAt M Hs hv i N n e)
  | _, _ => false
def okOp (C : Ctx) (ops : Array Oper) (M : List Nat) (tm vF : Trie Value) (h : AH) (Hs : List AH) (hv : List Nat) (i : Nat) : Bool :=
  match ops.toList[i]?, vF.get i with
  | some o, some v => match dkind o.op with
      | 1 => match want ops (pvf ops o M tm vF i) o with
        | some true => (List.range (hv.length + 1)).all (okRead C M vF Hs hv i (evl C.G (pvf ops o M tm vF i)) o.op v)
        | some false => true
        | none => false
      | 2 => okZero C M h Hs hv i (evl C.G (pvf ops o M tm vF i)) o.op v
      | _ => true
  | _, _ => false
def zeros (l : List Oper) : List Nat := (List.range l.length).filter (isZero l)
def okNames (vF : Trie Value) (i j : Nat) : Bool :=
  Nat.beq i j || (match (vF.get i).bind nameOf, (vF.get j).bind nameOf with
    | some a, some b => !(Nat.beq a b)
    | _, _ => false)
def tmF (nt : Nat) (vF : Trie Value) : List Oper → Nat → Trie Value → Option (Trie Value)
  | [], _, tm => some tm
  | o :: l, k, tm => match vF.get k with
    | none => none
    | some v => match tput nt tm o.dst v with
      | none => none
      | some tm' => tmF nt vF l (k + 1) tm'
def evDraw (C : Ctx) (rec_ : Task → Option Res) (rd : Option Nat) (nt : Nat) (ops : Array Oper) (tm : Trie Value) (df : List ADef) (h : AH) : Option Res :=
  match static ops (masks ops.toList []) with
  | false => none
  | true => match pass C rec_ rd ops (masks ops.toList []) tm df (plan ops.toList) .nil h false with
    | none => none
    | some (vF, Hs) => match (List.range ops.toList.length).all (okOp C ops (masks ops.toList []) tm vF h Hs ((plan ops.toList).filter (isHv ops.toList))) && allPairs (zeros ops.toList) (okNames vF) && chain (masks ops.toList []) ((plan ops.toList).filter (isHv ops.toList)) with
      | false => none
      | true => match tmF nt vF ops.toList 0 tm, Hs[((plan ops.toList).filter (isHv ops.toList)).length]? with
        | some tm', some h' => some (.code .normal tm' df h')
        | _, _ => none

end
end Go.Ev
