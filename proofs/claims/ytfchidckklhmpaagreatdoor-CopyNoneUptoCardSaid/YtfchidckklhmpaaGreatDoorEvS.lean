/- The evaluator, going on. -/
import Derived.Test.YtfchidckklhmpaaGreatDoorEvJ
import Derived.Lib.BytesEntry
import Derived.Lib.Bytealg
import Derived.Lib.Join
import Derived.Laws.StandIn
import Derived.Below
import Derived.ChangeAlike
/- Ev: regions whose order is drawn: the evaluator goes one way, and checks that every way comes to the same. -/
namespace Go.Ev
noncomputable section
set_option linter.unusedVariables false
set_option linter.unusedSimpArgs false

/-- 0: neither reads nor writes; 1: reads; 2: makes a row of zeros; 3: more; 4: never in a drawn region -/
def dkind (op : Op) : Nat :=
  match op with
  | .alloc _ => 2
  | .makeSlice _ _ _ => 2
  | .load _ _ => 1
  | .defer _ => 4
  | .convert _ _ _ => 0
  | .lookup _ _ _ _ => 3
  | op => match isDry op with
    | true => 0
    | false => 3
def maskOf (M : List Nat) : List Edge → Nat
  | [] => 0
  | e :: r => match Region.binds .any e with
    | true => Nat.lor (maskOf M r) (Nat.lor (Nat.pow 2 e.on) (M.getD e.on 0))
    | false => maskOf M r
def masks : List Oper → List Nat → List Nat
  | [], acc => acc
  | o :: l, acc => masks l (acc ++ [maskOf acc o.after.toList])
def bef (M : List Nat) (i j : Nat) : Bool := Nat.beq (Nat.land (Nat.shiftRight (M.getD j 0) i) 1) 1
def bOr (a b : Bool) : Bool := @Bool.rec (fun _ => Bool) b true a
def bAnd (a b : Bool) : Bool := @Bool.rec (fun _ => Bool) false b a
theorem bOr_eq (a b : Bool) : bOr a b = (a || b) := by cases a <;> rfl
theorem bAnd_eq (a b : Bool) : bAnd a b = (a && b) := by cases a <;> rfl
def has (l : List Nat) (t : Nat) : Bool := @List.rec Nat (fun _ => Bool) false (fun x _ ih => bOr (Nat.beq x t) ih) l
theorem has_cons (x : Nat) (l : List Nat) (t : Nat) : has (x :: l) t = (Nat.beq x t || has l t) := by
  show bOr _ _ = _
  rw [bOr_eq]; rfl

/-! ### what is checked once and for all -/
def okMask (l : List Oper) (M : List Nat) (i : Nat) : Bool :=
  match l[i]? with
  | none => true
  | some o => Nat.beq (M.getD i 0) (maskOf M o.after.toList) && o.after.toList.all fun e => !Region.binds .any e || Nat.ble (e.on + 1) i
def looksD (ops : Array Oper) (o : Oper) : List Tmp := o.looksAt ops ++ o.dst.toList
def okT1 (M : List Nat) (i k : Nat) (looks : List Nat) (d : Option Tmp) : Bool :=
  @Option.rec Tmp (fun _ => Bool) true (fun t => @Bool.rec (fun _ => Bool) true (bOr (Nat.beq i k) (bOr (bef M i k) (bef M k i))) (has looks t)) d
def okTmpL (M : List Nat) (i : Nat) (looks : List Nat) (l : List Oper) : Nat → Bool :=
  @List.rec Oper (fun _ => Nat → Bool) (fun _ => true) (fun p _ ih k => bAnd (okT1 M i k looks p.dst) (ih (Nat.succ k))) l
def okTmps (ops : Array Oper) (M : List Nat) (l : List Oper) : Nat → Bool :=
  @List.rec Oper (fun _ => Nat → Bool) (fun _ => true) (fun o _ ih k => bAnd (okTmpL M k (looksD ops o) ops.toList 0) (ih (Nat.succ k))) l
def isHv (l : List Oper) (i : Nat) : Bool :=
  match l[i]? with
  | some o => Nat.beq (dkind o.op) 3
  | none => false
def isZero (l : List Oper) (i : Nat) : Bool :=
  match l[i]? with
  | some o => Nat.beq (dkind o.op) 2
  | none => false
def hvs (l : List Oper) : List Nat := (List.range l.length).filter (isHv l)
/-- each of them ahead of all that come behind it -/
def chain (M : List Nat) : List Nat → Bool
  | [] => true
  | i :: r => r.all (bef M i) && chain M r
def allPairs (l : List Nat) (p : Nat → Nat → Bool) : Bool := l.all fun i => l.all fun j => p i j
/-- an order in which each operation's edges are behind it: no way ends ahead of the last -/
def okOrd (md : Region.Mode) (l : List Oper) : List Nat → Nat → Bool
  | [], done => (List.range l.length).all fun i => Nat.testBit done i
  | i :: r, done => match l[i]? with
    | none => false
    | some o => (o.after.toList.all fun e => !Region.binds md e || Nat.testBit done e.on) && okOrd md l r (Nat.lor done (Nat.pow 2 i))
def greedyPick (md : Region.Mode) (l : List Oper) (good : Nat → Bool) (done : Nat) : List Nat → Option Nat
  | [] => none
  | i :: r => match l[i]? with
    | none => greedyPick md l good done r
    | some o => match !Nat.testBit done i && good i && (o.after.toList.all fun e => !Region.binds md e || Nat.testBit done e.on) with
      | true => some i
      | false => greedyPick md l good done r
def greedy (md : Region.Mode) (l : List Oper) (good : Nat → Bool) : Nat → Nat → List Nat
  | 0, _ => []
  | n + 1, done => match greedyPick md l good done (List.range l.length) with
    | some i => i :: greedy md l good n (Nat.lor done (Nat.pow 2 i))
    | none => match greedyPick md l (fun _ => true) done (List.range l.length) with
      | some i => i :: greedy md l good n (Nat.lor done (Nat.pow 2 i))
      | none => []
def plan (l : List Oper) : List Nat := greedy .any l (fun i => !isHv l i) l.length 0
/-- all that hangs on the code alone -/
def static (ops : Array Oper) (M : List Nat) : Bool :=
  (List.range ops.toList.length).all (okMask ops.toList M) && okTmps ops M ops.toList 0 &&
  okOrd .text ops.toList (List.range ops.toList.length) 0 && (okOrd .gc ops.toList (List.range ops.toList.length) 0 || okOrd .gc ops.toList (greedy .gc ops.toList (fun _ => true) ops.toList.length 0) 0)

/-! ### the way that is gone -/
/-- who wrote a temporary last, as operation i sees it -/
def src (M : List Nat) (i t : Nat) (l : List Oper) : Nat → Option Nat → Option Nat :=
  @List.rec Oper (fun _ => Nat → Option Nat → Option Nat) (fun _ acc => acc)
    (fun o _ ih k acc => ih (Nat.succ k) (@Option.rec Tmp (fun _ => Option Nat) acc (fun d => @Bool.rec (fun _ => Option Nat) acc (some k) (bAnd (Nat.beq d t) (bef M k i))) o.dst)) l
def pvf (ops : Array Oper) (o : Oper) (M : List Nat) (tm vals : Trie Value) (i t : Nat) : Option Value :=
  @Bool.rec (fun _ => Option Value) none (@Option.rec Nat (fun _ => Option Value) (tval tm t) (fun k => vals.get k) (src M i t ops.toList 0 none)) (has (looksD ops o) t)
def cons1 (cur : AH) (r : Option (Trie Value × List AH)) : Option (Trie Value × List AH) :=
  match r with
  | none => none
  | some (v, l) => some (v, cur :: l)
def pass (C : Ctx) (rec_ : Task → Option Res) (rd : Option Nat) (ops : Array Oper) (M : List Nat) (tm : Trie Value) (df : List ADef) : List Nat → Trie Value → AH → Bool → Option (Trie Value × List AH)
  | [], vals, cur, _ => some (vals, [cur])
  | i :: l, vals, cur, seen => match ops.toList[i]? with
    | none => none
    | some o => match vals.get i with
      | some _ => none
      | none => match want ops (pvf ops o M tm vals i) o with
        | none => none
        | some false => match vals.put D i (some undef) with
          | none => none
          | some vals' => match dkind o.op with
            | 0 => pass C rec_ rd ops M tm df l vals' cur seen
            | 1 => pass C rec_ rd ops M tm df l vals' cur seen
            | 3 => cons1 cur (pass C rec_ rd ops M tm df l vals' cur true)
            | _ => none
        | some true => match dkind o.op with
          | 0 => match adry C.P (evl C.G (pvf ops o M tm vals i)) o.op with
            | none => none
            | some v => match vals.put D i (some v) with
              | none => none
              | some vals' => pass C rec_ rd ops M tm df l vals' cur seen
          | 1 => match aread C.P cur (evl C.G (pvf ops o M tm vals i)) o.op with
            | none => none
            | some v => match vals.put D i (some v) with
              | none => none
              | some vals' => pass C rec_ rd ops M tm df l vals' cur seen
          | 2 => match seen with
            | true => none
            | false => match azeros C.P C.G cur (evl C.G (pvf ops o M tm vals i)) o.op with
              | none => none
              | some (v, cur') => match vals.put D i (some v) with
                | none => none
                | some vals' => pass C rec_ rd ops M tm df l vals' cur' false
          | 3 => match evOp C rec_ rd o.op (evl C.G (pvf ops o M tm vals i)) df cur with
            | some (.val v _ cur') => match vals.put D i (some v) with
              | none => none
              | some vals' => cons1 cur (pass C rec_ rd ops M tm df l vals' cur' true)
            | _ => none
          | _ => none

/-! ### what is checked of the way -/
mutual
def veq : Nat → Value → Value → Bool
  | 0, _, _ => false
  | n + 1, a, b => match a, b with
    | .bool x, .bool y => x == y
    | .int k x, .int j y => Nat.beq (kidx k) (kidx j) && decide (x = y)
    | .string x, .string y => decide (x.data.toList = y.data.toList)
    | .pointer none, .pointer none => true
    | .pointer (some ⟨b, o, none⟩), .pointer (some ⟨b', o', none⟩) => Nat.beq b b' && Nat.beq o o'
    | .slice none n c, .slice none n' c' => Nat.beq n n' && Nat.beq c c'
    | .slice (some ⟨b, o, none⟩) n c, .slice (some ⟨b', o', none⟩) n' c' => Nat.beq b b' && Nat.beq o o' && Nat.beq n n' && Nat.beq c c'
    | .slice (some ⟨b, o, some s⟩) n c, .slice (some ⟨b', o', some s'⟩) n' c' => Nat.beq b b' && Nat.beq o o' && Nat.beq s s' && Nat.beq n n' && Nat.beq c c'
    | .map none, .map none => true
    | .map (some a), .map (some b) => Nat.beq a b
    | .nilIface, .nilIface => true
    | .nilFunc, .nilFunc => true
    | .chan (some a), .chan (some b) => Nat.beq a b
    | .func (.func f) a c, .func (.func g) a' c' => Nat.beq f g && veq.veqL n a.toList a'.toList && veq.veqL n c.toList c'.toList
    | .iface t v, .iface u w => Nat.beq t u && veq n v w
    | .agg x, .agg y => veq.veqL n x.toList y.toList
    | .tuple x, .tuple y => veq.veqL n x.toList y.toList
    | _, _ => false
def veq.veqL : Nat → List Value → List Value → Bool
  | 0, _, _ => false
  | _ + 1, [], [] => true
  | n + 1, a :: l, b :: m => veq n a b && veq.veqL n l m
  | _ + 1, _, _ => false
end

def nameOf (v : Value) : Option Nat :=
  match v with
  | .pointer (some ⟨b, 0, none⟩) => some b
  | .slice (some ⟨b, 0, none⟩) _ _ => some b
  | _ => none
def isUndef (v : Value) : Bool :=
  match v with
  | .tuple a => a.toList.isEmpty
  | _ => false
def zeroRow (h : AH) (b n : Nat) (e : TypeId) : Bool :=
  match h.blks.get b with
  | some (.row ⟨.nil, n', e', true⟩) => Nat.beq n n' && Nat.beq e e'
  | _ => false
def countB (l : List Nat) (p : Nat → Bool) : Nat := (l.filter p).length
def vfuel : Nat := 2000
def okRead (C : Ctx) (M : List Nat) (vF : Trie Value) (Hs : List AH) (hv : List Nat) (i : Nat) (ev : Operand → Option Value) (op : Op) (v : Value) (q : Nat) : Bool :=
  Nat.ble (q + 1) (countB hv fun j => bef M j i) || Nat.ble (hv.length + 1) (q + countB hv fun j => bef M i j) || (match Hs[q]? with
    | some H => match aread C.P H ev op with
      | some u => veq vfuel u v
      | none => false
    | none => false)
def okZeroAt (M : List Nat) (Hs : List AH) (hv : List Nat) (i N n : Nat) (e : TypeId) (q : Nat) : Bool :=
  Nat.ble (hv.length + 1) (q + countB hv fun j => bef M i j) || (match Hs[q]? with
    | some H => zeroRow H N n e
    | none => false)
def okZero (C : Ctx) (M : List Nat) (h : AH) (Hs : List AH) (hv : List Nat) (i : Nat) (ev : Operand → Option Value) (op : Op) (v : Value) : Bool :=
  match azero C.P ev op, nameOf v with
  | some (e, n, k), some N => veq vfuel (zval N k) v && Nat.ble h.next N && Nat.ble C.G N && (match Hs[0]? with | some H => Nat.ble (N + 1) H.next | none => false) &&
    (List.range (hv.length + 1)).all (okZeroAt M Hs hv i N n e)
  | _, _ => false
def okOp (C : Ctx) (ops : Array Oper) (M : List Nat) (tm vF : Trie Value) (h : AH) (Hs : List AH) (hv : List Nat) (i : Nat) : Bool :=
  match ops.toList[i]?, vF.get i with
  | some o, some v => match dkind o.op with
      | 1 => match want ops (pvf ops o M tm vF i) o with
        | some true => (List.range (hv.length + 1)).all (okRead C M vF Hs hv i (evl C.G (pvf ops o M tm vF i)) o.op v)
        | some false => true
        | none => false
      | 2 => okZero C M h Hs hv i (evl C.G (pvf ops o M tm vF i)) o.op v
      | _ => true
  | _, _ => false
def zeros (l : List Oper) : List Nat := (List.range l.length).filter (isZero l)
def okNames (vF : Trie Value) (i j : Nat) : Bool :=
  Nat.beq i j || (match (vF.get i).bind nameOf, (vF.get j).bind nameOf with
    | some a, some b => !(Nat.beq a b)
    | _, _ => false)
def tmF (nt : Nat) (vF : Trie Value) : List Oper → Nat → Trie Value → Option (Trie Value)
  | [], _, tm => some tm
  | o :: l, k, tm => match vF.get k with
    | none => none
    | some v => match tput nt tm o.dst v with
      | none => none
      | some tm' => tmF nt vF l (k + 1) tm'
def evDraw (C : Ctx) (rec_ : Task → Option Res) (rd : Option Nat) (nt : Nat) (ops : Array Oper) (tm : Trie Value) (df : List ADef) (h : AH) : Option Res :=
  match static ops (masks ops.toList []) with
  | false => none
  | true => match pass C rec_ rd ops (masks ops.toList []) tm df (plan ops.toList) .nil h false with
    | none => none
    | some (vF, Hs) => match (List.range ops.toList.length).all (okOp C ops (masks ops.toList []) tm vF h Hs ((plan ops.toList).filter (isHv ops.toList))) && allPairs (zeros ops.toList) (okNames vF) && chain (masks ops.toList []) ((plan ops.toList).filter (isHv ops.toList)) with
      | false => none
      | true => match tmF nt vF ops.toList 0 tm, Hs[((plan ops.toList).filter (isHv ops.toList)).length]? with
        | some tm', some h' => some (.code .normal tm' df h')
        | _, _ => none

end
end Go.Ev

/- Ev: drawn regions: what the static checks say. -/
namespace Go.Ev
noncomputable section
set_option linter.unusedVariables false
set_option linter.unusedSimpArgs false

theorem testBit_lor (a b i : Nat) : Nat.testBit (Nat.lor a b) i = (Nat.testBit a i || Nat.testBit b i) := Nat.testBit_or a b i
theorem testBit_pow (n i : Nat) : Nat.testBit (Nat.pow 2 n) i = decide (n = i) := Nat.testBit_two_pow
theorem bef_eq (M : List Nat) (i j : Nat) : bef M i j = Nat.testBit (M.getD j 0) i := by
  unfold bef
  rw [Nat.testBit_eq_decide_div_mod_eq]
  have e : Nat.land (Nat.shiftRight (M.getD j 0) i) 1 = M.getD j 0 / 2 ^ i % 2 := by
    show (M.getD j 0 >>> i) &&& 1 = _
    rw [Nat.and_one_is_mod, Nat.shiftRight_eq_div_pow]
  rw [e]
  cases hb : Nat.beq (M.getD j 0 / 2 ^ i % 2) 1 with
  | true => rw [Trie.beq_true hb]; rfl
  | false => have := Trie.beq_false hb; exact (decide_eq_false this).symm
theorem maskOf_bit {M : List Nat} {j : Nat} : ∀ {es : List Edge}, Nat.testBit (maskOf M es) j = true → ∃ e ∈ es, Region.binds .any e = true ∧ (e.on = j ∨ Nat.testBit (M.getD e.on 0) j = true) := by
  intro es
  induction es with
  | nil => intro h; simp [maskOf] at h
  | cons e es ih =>
    intro h
    simp only [maskOf] at h
    split at h
    · rename_i hb
      rw [testBit_lor, testBit_lor, testBit_pow] at h
      simp only [Bool.or_eq_true, decide_eq_true_eq] at h
      rcases h with h | h | h
      · obtain ⟨e', h1, h2⟩ := ih h; exact ⟨e', List.mem_cons_of_mem _ h1, h2⟩
      · exact ⟨e, List.mem_cons_self, hb, .inl h⟩
      · exact ⟨e, List.mem_cons_self, hb, .inr h⟩
    · obtain ⟨e', h1, h2⟩ := ih h; exact ⟨e', List.mem_cons_of_mem _ h1, h2⟩
theorem binds_any {md : Region.Mode} {e : Edge} (h : Region.binds .any e = true) : Region.binds md e = true := by
  unfold Region.binds at *
  split at h <;> first | rfl | (simp at h)
theorem binds_text {e : Edge} (h : Region.binds .any e = true) : Region.binds .text e = true := binds_any h
theorem allPairs_spec {l : List Nat} {p : Nat → Nat → Bool} (h : allPairs l p = true) {i j : Nat} (hi : i ∈ l) (hj : j ∈ l) : p i j = true := by
  have h1 := List.all_eq_true.1 h i hi
  exact List.all_eq_true.1 h1 j hj
theorem has_mem {l : List Nat} {t : Nat} : has l t = true ↔ t ∈ l := by
  induction l with
  | nil => exact ⟨(fun h => Bool.noConfusion (show false = true from h)), (fun h => absurd h (by simp))⟩
  | cons x l ih =>
    rw [has_cons, Bool.or_eq_true, ih, List.mem_cons]
    constructor
    · rintro (h | h)
      · exact .inl (Trie.beq_true h).symm
      · exact .inr h
    · rintro (h | h)
      · exact .inl (by subst h; exact Nat.beq_refl _)
      · exact .inr h
theorem okTmpL_spec {M : List Nat} {i : Nat} {looks : List Nat} : ∀ (l : List Oper) (k : Nat), okTmpL M i looks l k = true → ∀ (j : Nat) p t, l[j]? = some p → p.dst = some t → t ∈ looks → i ≠ k + j → bef M i (k + j) = true ∨ bef M (k + j) i = true := by
  intro l
  induction l with
  | nil => intro k _ j p t h; simp at h
  | cons p l ih =>
    intro k h j q t hj hd ht hne
    have h' : bAnd (okT1 M i k looks p.dst) (okTmpL M i looks l (Nat.succ k)) = true := h
    rw [bAnd_eq, Bool.and_eq_true] at h'
    cases j with
    | zero =>
      simp only [List.getElem?_cons_zero] at hj
      injection hj with hj; subst hj
      have h1 := h'.1
      rw [hd] at h1
      have h2 : @Bool.rec (fun _ => Bool) true (bOr (Nat.beq i k) (bOr (bef M i k) (bef M k i))) (has looks t) = true := h1
      rw [has_mem.2 ht] at h2
      have h3 : bOr (Nat.beq i k) (bOr (bef M i k) (bef M k i)) = true := h2
      rw [bOr_eq, bOr_eq] at h3
      simp only [Bool.or_eq_true] at h3
      rcases h3 with h3 | h3
      · exact absurd (Trie.beq_true h3) hne
      · exact h3
    | succ j =>
      simp only [List.getElem?_cons_succ] at hj
      have := ih (Nat.succ k) h'.2 j q t hj hd ht (by rw [show Nat.succ k + j = k + (j + 1) from by omega]; exact hne)
      rwa [show Nat.succ k + j = k + (j + 1) from by omega] at this
theorem okTmps_spec {ops : Array Oper} {M : List Nat} : ∀ (l : List Oper) (k : Nat), okTmps ops M l k = true → ∀ (i : Nat) o, l[i]? = some o → okTmpL M (k + i) (looksD ops o) ops.toList 0 = true := by
  intro l
  induction l with
  | nil => intro k _ i o h; simp at h
  | cons p l ih =>
    intro k h i o hi
    have h' : bAnd (okTmpL M k (looksD ops p) ops.toList 0) (okTmps ops M l (Nat.succ k)) = true := h
    rw [bAnd_eq, Bool.and_eq_true] at h'
    cases i with
    | zero => simp only [List.getElem?_cons_zero] at hi; injection hi with hi; subst hi; exact h'.1
    | succ i =>
      simp only [List.getElem?_cons_succ] at hi
      have := ih (Nat.succ k) h'.2 i o hi
      rwa [show Nat.succ k + i = k + (i + 1) from by omega] at this

/-- what a region's static checks say -/
structure Stat8 (ops : Array Oper) (M : List Nat) : Prop where
  mask : ∀ i o, ops.toList[i]? = some o → (∀ j, bef M j i = true → ∃ e ∈ o.after.toList, Region.binds .any e = true ∧ (e.on = j ∨ bef M j e.on = true)) ∧ ∀ e ∈ o.after.toList, Region.binds .any e = true → e.on < i
  tmp : ∀ (i j : Nat) o p t, ops.toList[i]? = some o → ops.toList[j]? = some p → i ≠ j → p.dst = some t → t ∈ looksD ops o → bef M i j = true ∨ bef M j i = true
  ord : ∀ md, ∃ o, okOrd md ops.toList o 0 = true
theorem isHv_lt {l : List Oper} {x : Nat} (hx : isHv l x = true) : x < l.length := by
  unfold isHv at hx
  split at hx
  · rename_i o ho; exact (List.getElem?_eq_some_iff.1 ho).1
  · cases hx
theorem okOrd_weak {l : List Oper} : ∀ (o : List Nat) (done : Nat), okOrd .text l o done = true → okOrd .any l o done = true := by
  intro o
  induction o with
  | nil => intro d h; exact h
  | cons i r ih =>
    intro d h
    simp only [okOrd] at h ⊢
    split at h
    · cases h
    · rename_i op ho
      simp only [Bool.and_eq_true] at h ⊢
      refine ⟨List.all_eq_true.2 fun e he => ?_, ih _ h.2⟩
      have := List.all_eq_true.1 h.1 e he
      cases hb : Region.binds .any e with
      | false => rfl
      | true => rw [binds_text hb] at this; exact this
theorem static_spec {ops : Array Oper} {M : List Nat} (h : static ops M = true) : Stat8 ops M := by
  unfold static at h
  simp only [Bool.and_eq_true] at h
  obtain ⟨⟨⟨h1, h2⟩, h5⟩, h6⟩ := h
  refine ⟨fun i o ho => ?_, fun i j o p t ho hp hij hd ht => ?_, fun md => ?_⟩
  · have hi : i < ops.toList.length := (List.getElem?_eq_some_iff.1 ho).1
    have hk := List.all_eq_true.1 h1 i (List.mem_range.2 hi)
    simp only [okMask, ho, Bool.and_eq_true] at hk
    obtain ⟨k1, k2⟩ := hk
    have k1 := Trie.beq_true k1
    refine ⟨fun j hj => ?_, fun e he hb => ?_⟩
    · rw [bef_eq, k1] at hj
      obtain ⟨e, he, hb, hh⟩ := maskOf_bit hj
      exact ⟨e, he, hb, hh.imp id fun h => by rw [bef_eq]; exact h⟩
    · have := List.all_eq_true.1 k2 e he
      simp only [hb, Bool.not_true, Bool.false_or] at this
      exact ble_true this
  · have hk := okTmps_spec _ _ h2 i o ho
    rw [Nat.zero_add] at hk
    have := okTmpL_spec _ _ hk j p t hp hd ht (by rw [Nat.zero_add]; exact hij)
    rwa [Nat.zero_add] at this
  · cases md with
    | any => exact ⟨_, okOrd_weak _ _ h5⟩
    | text => exact ⟨_, h5⟩
    | gc =>
      simp only [Bool.or_eq_true] at h6
      rcases h6 with h6 | h6
      · exact ⟨_, h6⟩
      · exact ⟨_, h6⟩
theorem bef_lt {ops : Array Oper} {M : List Nat} (st : Stat8 ops M) : ∀ (i j : Nat) o, ops.toList[i]? = some o → bef M j i = true → j < i := by
  intro i
  induction i using Nat.strongRecOn with
  | ind i ih =>
    intro j o ho hb
    obtain ⟨e, he, hbd, h | h⟩ := (st.mask i o ho).1 j hb
    · have := (st.mask i o ho).2 e he hbd; omega
    · have h1 := (st.mask i o ho).2 e he hbd
      have hi : i < ops.toList.length := (List.getElem?_eq_some_iff.1 ho).1
      have := ih e.on h1 j (ops.toList[e.on]'(by omega)) (List.getElem?_eq_getElem (by omega)) h
      omega

/-- an order in which each edge is kept: while anything is left, something is ready -/
theorem okOrd_ready {md : Region.Mode} {ops : Array Oper} {listed : Array Bool} (hsz : listed.size = ops.size) : ∀ (ord : List Nat) (done : Nat), okOrd md ops.toList ord done = true →
    (∀ i, Nat.testBit done i = true → listed.getD i true = true ∧ listed.getD i false = true) → Region.ready md ops listed = [] → ∀ i, i < ops.size → listed.getD i true = true ∧ listed.getD i false = true := by
  intro ord
  induction ord with
  | nil =>
    intro done h hd _ i hi
    have := List.all_eq_true.1 h i (List.mem_range.2 (by simpa using hi))
    exact hd i this
  | cons k r ih =>
    intro done h hd hr i hi
    simp only [okOrd] at h
    split at h
    · cases h
    · rename_i o ho
      simp only [Bool.and_eq_true] at h
      obtain ⟨h1, h2⟩ := h
      refine ih _ h2 (fun j hj => ?_) hr i hi
      rw [testBit_lor, testBit_pow] at hj
      simp only [Bool.or_eq_true, decide_eq_true_eq] at hj
      rcases hj with hj | hj
      · exact hd j hj
      · subst hj
        have ho' : ops[k]? = some o := by simpa using ho
        have hn : ¬ (k ∈ Region.ready md ops listed) := by rw [hr]; simp
        rw [mem_ready] at hn
        have hk : listed.getD k true = true := by
          cases hl : listed.getD k true with
          | true => rfl
          | false =>
            refine absurd ⟨hl, o, ho', fun e he hb => ?_⟩ hn
            have := List.all_eq_true.1 h1 e (by simpa using he)
            simp only [hb, Bool.not_true, Bool.false_or] at this
            exact (hd _ this).2
        refine ⟨hk, ?_⟩
        cases hl : listed[k]? with
        | none =>
          exfalso
          have h5 := (Array.getElem?_eq_some_iff.1 ho').1
          rw [Array.getElem?_eq_none_iff] at hl
          omega
        | some b => simp [hl] at hk ⊢; exact hk

end
end Go.Ev

/- Ev: drawn regions: temporaries, equal values. -/
namespace Go.Ev
noncomputable section
set_option linter.unusedVariables false
set_option linter.unusedSimpArgs false

/-- what a temporary holds when so many operations are done -/
def td (L : Nat → Bool) (vF : Trie Value) (t : Nat) : List Oper → Nat → Value → Value
  | [], _, acc => acc
  | o :: l, k, acc => if o.dst = some t ∧ L k = true then td L vF t l (k + 1) ((vF.get k).getD undef) else td L vF t l (k + 1) acc

theorem src_nil (M : List Nat) (i t k : Nat) (acc : Option Nat) : src M i t [] k acc = acc := rfl
theorem src_cons (M : List Nat) (i t k : Nat) (o : Oper) (l : List Oper) (acc : Option Nat) : src M i t (o :: l) k acc = src M i t l (k + 1) (match o.dst with
    | none => acc
    | some d => if d = t ∧ bef M k i = true then some k else acc) := by
  show src M i t l (k + 1) (@Option.rec Tmp (fun _ => Option Nat) acc (fun d => @Bool.rec (fun _ => Option Nat) acc (some k) (bAnd (Nat.beq d t) (bef M k i))) o.dst) = _
  congr 1
  cases o.dst with
  | none => rfl
  | some d =>
    show @Bool.rec (fun _ => Option Nat) acc (some k) (bAnd (Nat.beq d t) (bef M k i)) = _
    rw [bAnd_eq]
    cases h1 : Nat.beq d t with
    | false => have := Trie.beq_false h1; simp [this]
    | true =>
      have := Trie.beq_true h1
      subst this
      cases bef M k i <;> simp
def sval (base : Value) (vF : Trie Value) : Option Nat → Value
  | none => base
  | some k => (vF.get k).getD undef
theorem td_of_src {M : List Nat} {L : Nat → Bool} {vF : Trie Value} {i t : Nat} {base : Value} : ∀ (l : List Oper) (k : Nat) (acc : Option Nat), (∀ (j : Nat) o, l[j]? = some o → o.dst = some t → L (k + j) = bef M (k + j) i) →
    td L vF t l k (sval base vF acc) = sval base vF (src M i t l k acc) := by
  intro l
  induction l with
  | nil => intro k acc _; rfl
  | cons o l ih =>
    intro k acc hL
    have hL' : ∀ (j : Nat) p, l[j]? = some p → p.dst = some t → L (k + 1 + j) = bef M (k + 1 + j) i := fun j p hp hd => by
      have := hL (j + 1) p (by simpa using hp) hd
      rwa [show k + (j + 1) = k + 1 + j from by omega] at this
    rw [src_cons]
    simp only [td]
    cases hd : o.dst with
    | none => rw [if_neg (by simp)]; exact ih (k + 1) acc hL'
    | some d =>
      simp only []
      by_cases hdt : d = t
      · subst hdt
        have h0 := hL 0 o rfl hd
        simp only [Nat.add_zero] at h0
        by_cases hb : bef M k i = true
        · rw [if_pos ⟨rfl, by rw [h0]; exact hb⟩, if_pos ⟨rfl, hb⟩]; exact ih (k + 1) (some k) hL'
        · rw [if_neg (fun h => hb (by rw [← h0]; exact h.2)), if_neg (fun h => hb h.2)]; exact ih (k + 1) acc hL'
      · rw [if_neg (fun h => hdt (by injection h.1)), if_neg (fun h => hdt h.1)]; exact ih (k + 1) acc hL'

def VLe (a b : Trie Value) : Prop := ∀ k v, a.get k = some v → b.get k = some v
theorem pvf_some {ops : Array Oper} {o : Oper} {M : List Nat} {tm vals : Trie Value} {i t : Nat} {u : Value} (h : pvf ops o M tm vals i t = some u) :
    t ∈ looksD ops o ∧ ((src M i t ops.toList 0 none = none ∧ tval tm t = some u) ∨ ∃ k, src M i t ops.toList 0 none = some k ∧ vals.get k = some u) := by
  unfold pvf at h
  cases hh : has (looksD ops o) t with
  | false => rw [hh] at h; cases h
  | true =>
    rw [hh] at h
    refine ⟨has_mem.1 hh, ?_⟩
    cases hs : src M i t ops.toList 0 none with
    | none => rw [hs] at h; exact .inl ⟨rfl, h⟩
    | some k => rw [hs] at h; exact .inr ⟨k, rfl, h⟩
theorem pvf_td {ops : Array Oper} {o : Oper} {M : List Nat} {L : Nat → Bool} {tm vals vF : Trie Value} {i t : Nat} {u : Value} (hle : VLe vals vF) (hL : ∀ (j : Nat) p, ops.toList[j]? = some p → p.dst = some t → t ∈ looksD ops o → L j = bef M j i)
    (h : pvf ops o M tm vals i t = some u) : td L vF t ops.toList 0 ((tm.get t).getD undef) = u := by
  obtain ⟨hm, hh⟩ := pvf_some h
  have := td_of_src (M := M) (L := L) (vF := vF) (i := i) (t := t) (base := (tm.get t).getD undef) ops.toList 0 none (fun j p hp hd => by rw [Nat.zero_add]; exact hL j p hp hd hm)
  simp only [sval] at this
  rcases hh with ⟨hs, ht⟩ | ⟨k, hs, hk⟩
  · rw [hs] at this
    simp only [] at this
    rw [this]
    unfold tval at ht
    split at ht
    · rename_i v hv; rw [hv]; injection ht
    · rename_i hv; rw [hv]; injection ht
  · rw [hs] at this
    simp only [] at this
    rw [this, hle _ _ hk]; rfl

theorem td_congr {L L' : Nat → Bool} {vF : Trie Value} {t : Nat} : ∀ (l : List Oper) (k : Nat) (acc : Value), (∀ j o, l[j]? = some o → o.dst = some t → L (k + j) = L' (k + j)) → td L vF t l k acc = td L' vF t l k acc := by
  intro l
  induction l with
  | nil => intro k acc _; rfl
  | cons o l ih =>
    intro k acc h
    have h' : ∀ j p, l[j]? = some p → p.dst = some t → L (k + 1 + j) = L' (k + 1 + j) := fun j p hp hd => by
      have := h (j + 1) p (by simpa using hp) hd
      rwa [show k + (j + 1) = k + 1 + j from by omega] at this
    simp only [td]
    by_cases hd : o.dst = some t
    · have := h 0 o rfl hd
      simp only [Nat.add_zero] at this
      rw [this, ih (k + 1) _ h', ih (k + 1) _ h']
    · rw [if_neg (fun hh => hd hh.1), if_neg (fun hh => hd hh.1), ih (k + 1) _ h']
theorem td_none {L : Nat → Bool} {vF : Trie Value} {t : Nat} : ∀ (l : List Oper) (k : Nat) (acc : Value), (∀ j o, l[j]? = some o → o.dst = some t → L (k + j) = false) → td L vF t l k acc = acc := by
  intro l
  induction l with
  | nil => intro k acc _; rfl
  | cons o l ih =>
    intro k acc h
    have h' : ∀ j p, l[j]? = some p → p.dst = some t → L (k + 1 + j) = false := fun j p hp hd => by
      have := h (j + 1) p (by simpa using hp) hd
      rwa [show k + (j + 1) = k + 1 + j from by omega] at this
    simp only [td]
    rw [if_neg, ih (k + 1) _ h']
    rintro ⟨h1, h2⟩
    have := h 0 o rfl h1
    simp only [Nat.add_zero] at this
    rw [h2] at this; cases this
theorem td_last {L : Nat → Bool} {vF : Trie Value} {t i : Nat} {o : Oper} (hd : o.dst = some t) (hL : L i = true) : ∀ (l : List Oper) (k : Nat) (acc : Value), k ≤ i → l[i - k]? = some o →
    (∀ j p, l[j]? = some p → p.dst = some t → L (k + j) = true → k + j ≤ i) → td L vF t l k acc = (vF.get i).getD undef := by
  intro l
  induction l with
  | nil => intro k acc _ h; simp at h
  | cons p l ih =>
    intro k acc hk h hm
    have h' : ∀ j q, l[j]? = some q → q.dst = some t → L (k + 1 + j) = true → k + 1 + j ≤ i := fun j q hq hdq hLq => by
      have := hm (j + 1) q (by simpa using hq) hdq (by rwa [show k + (j + 1) = k + 1 + j from by omega])
      omega
    simp only [td]
    by_cases hki : k = i
    · subst hki
      rw [Nat.sub_self] at h
      simp only [List.getElem?_cons_zero] at h
      injection h with h; subst h
      rw [if_pos ⟨hd, hL⟩]
      refine td_none _ _ _ fun j q hq hdq => ?_
      cases hLq : L (k + 1 + j) with
      | false => rfl
      | true => have := h' j q hq hdq hLq; omega
    · have e : i - k = (i - (k + 1)) + 1 := by omega
      rw [e, List.getElem?_cons_succ] at h
      split
      · exact ih (k + 1) _ (by omega) h h'
      · exact ih (k + 1) _ (by omega) h h'

theorem veq_eq : ∀ n, (∀ a b, veq n a b = true → a = b) ∧ (∀ a b, veq.veqL n a b = true → a = b) := by
  intro n
  induction n with
  | zero => exact ⟨fun a b h => by simp [veq] at h, fun a b h => by simp [veq.veqL] at h⟩
  | succ n ih =>
    obtain ⟨ih1, ih2⟩ := ih
    constructor
    · intro a b h
      unfold veq at h
      split at h
      · rw [eq_of_beq h]
      · simp only [Bool.and_eq_true, decide_eq_true_eq] at h
        rw [kidx_inj (Trie.beq_true h.1), h.2]
      · have h1 : _ = _ := of_decide_eq_true h
        rw [ByteArray.ext (Array.toList_inj.1 h1)]
      · rfl
      · simp only [Bool.and_eq_true] at h
        rw [Trie.beq_true h.1, Trie.beq_true h.2]
      · simp only [Bool.and_eq_true] at h
        rw [Trie.beq_true h.1, Trie.beq_true h.2]
      · simp only [Bool.and_eq_true] at h
        rw [Trie.beq_true h.1.1.1, Trie.beq_true h.1.1.2, Trie.beq_true h.1.2, Trie.beq_true h.2]
      · simp only [Bool.and_eq_true] at h
        rw [Trie.beq_true h.1.1.1.1, Trie.beq_true h.1.1.1.2, Trie.beq_true h.1.1.2, Trie.beq_true h.1.2, Trie.beq_true h.2]
      · rfl
      · rw [Trie.beq_true h]
      · rfl
      · rfl
      · rw [Trie.beq_true h]
      · simp only [Bool.and_eq_true] at h
        rw [Trie.beq_true h.1.1, Array.toList_inj.1 (ih2 _ _ h.1.2), Array.toList_inj.1 (ih2 _ _ h.2)]
      · simp only [Bool.and_eq_true] at h
        rw [Trie.beq_true h.1, ih1 _ _ h.2]
      · rw [Array.toList_inj.1 (ih2 _ _ h)]
      · rw [Array.toList_inj.1 (ih2 _ _ h)]
      · cases h
    · intro a b h
      cases a with
      | nil => cases b with
        | nil => rfl
        | cons y b => simp [veq.veqL] at h
      | cons x a => cases b with
        | nil => simp [veq.veqL] at h
        | cons y b =>
          simp only [veq.veqL, Bool.and_eq_true] at h
          rw [ih1 _ _ h.1, ih2 _ _ h.2]
theorem veq_sound {n : Nat} {a b : Value} (h : veq n a b = true) : a = b := (veq_eq n).1 a b h

end
end Go.Ev

/- Ev: drawn regions: every way comes to the same. -/
namespace Go.Ev
noncomputable section
set_option linter.unusedVariables false
set_option linter.unusedSimpArgs false
variable {E : Nat → Option Value} {W0 : World} {C : Ctx} {rec_ : Task → Option Res}

theorem want_sound' {σ : Emb} {tmps : Array Value} {pv : Nat → Option Value} (s : ∀ t v, pv t = some v → VR E σ v (tmps.getD t undef)) {ops : Array Oper} {o : Oper} {b : Bool} (e : want ops pv o = some b) : Region.wanted o (yielded ops tmps) = b := by
  unfold want at e
  unfold Region.wanted
  split at e
  · rename_i hg; injection e with e; subst e; rw [hg]
  · rename_i j bw hg
    rw [hg]
    simp only []
    split at e
    · rename_i hd
      injection e with e; subst e
      simp [yielded, hd]
    · rename_i t hd
      split at e
      · rename_i b' ht
        have hv := (s t _ ht).bool_inv
        have hy : yielded ops tmps j = some b' := by
          simp only [yielded, hd, Option.bind_some]
          have : tmps[t]? = some (.bool b') := by
            cases hx : tmps[t]? with
            | none => simp [hx, undef] at hv
            | some u => simp [hx] at hv; rw [hv]
          rw [this]
        rw [hy]
        cases b' <;> cases bw <;> simp at e <;> subst e <;> rfl
      · rename_i vs ht
        injection e with e; subst e
        have hv := s t _ ht
        have hy : yielded ops tmps j = none := by
          simp only [yielded, hd, Option.bind_some]
          cases hx : tmps[t]? with
          | none => rfl
          | some u =>
            have : tmps.getD t undef = u := by simp [hx]
            rw [this] at hv
            cases hv with
            | lit q => simp [lit] at q
            | tuple _ _ => rfl
        rw [hy]; cases bw <;> rfl
      · cases e

theorem evCall_df {ct : Option CT} {df df' : List ADef} {h h' : AH} {v : Value} (e : evCall C rec_ ct df h = some (.val v df' h')) : df' = df := by
  unfold evCall at e
  split at e
  · cases e
  · split at e
    · split at e
      · injection e with e; injection e with e1 e2 e3; exact e2.symm
      · cases e
    · split at e
      · injection e with e; injection e with e1 e2 e3; exact e2.symm
      · injection e with e; cases e
      · cases e
  · split at e
    · injection e with e; injection e with e1 e2 e3; exact e2.symm
    · cases e
theorem evOp_df {rd : Option Nat} {op : Op} {ev : Operand → Option Value} {df df' : List ADef} {h h' : AH} {v : Value} (e : evOp C rec_ rd op ev df h = some (.val v df' h')) (hd : ∀ c, op ≠ .defer c) : df' = df := by
  have slow : evSlow C rec_ rd op ev df h = some (.val v df' h') → df' = df := by
    intro e
    unfold evSlow at e
    split at e
    · split at e
      · split at e
        · injection e with e; injection e with e1 e2 e3; exact e2.symm
        · cases e
      · exact evCall_df e
    · exact absurd rfl (hd _)
    · split at e
      · injection e with e; cases e
      · cases e
    · split at e
      · injection e with e; injection e with e1 e2 e3; exact e2.symm
      · cases e
  have retv : ∀ {x : Option Value}, retV df h x = some (.val v df' h') → df' = df := by
    intro x hx
    cases x with
    | none => cases hx
    | some v => injection hx with hx; injection hx with e1 e2 e3; exact e2.symm
  have withv : ∀ {x : Option Value} {k : Value → Option OpRes}, withV x k = some (.val v df' h') → ∃ v0, k v0 = some (.val v df' h') := by
    intro x k hx
    cases x with
    | none => cases hx
    | some v0 => exact ⟨v0, hx⟩
  unfold evOp at e
  cases op
  case move => exact retv e
  case assign => exact retv e
  case load => obtain ⟨_, e⟩ := withv e; exact retv e
  case binOp => obtain ⟨_, e⟩ := withv e; obtain ⟨_, e⟩ := withv e; exact retv e
  case fieldAddr => obtain ⟨_, e⟩ := withv e; exact retv e
  case indexAddr => obtain ⟨_, e⟩ := withv e; obtain ⟨_, e⟩ := withv e; exact retv e
  all_goals exact slow e

/-! ### what the way says -/
def PFact (C : Ctx) (rec_ : Task → Option Res) (rd : Option Nat) (ops : Array Oper) (M : List Nat) (tm : Trie Value) (df : List ADef) (vF : Trie Value) (Hs : List AH) (hv : List Nat) (i : Nat) : Prop :=
  ∃ o v vals, ops.toList[i]? = some o ∧ VLe vals vF ∧ vF.get i = some v ∧
    ((want ops (pvf ops o M tm vals i) o = some false ∧ v = undef ∧ dkind o.op ≠ 2 ∧ (dkind o.op = 3 → ∃ (q : Nat) (H : AH), hv[q]? = some i ∧ Hs[q]? = some H ∧ Hs[q + 1]? = some H)) ∨
     (want ops (pvf ops o M tm vals i) o = some true ∧
       ((dkind o.op = 0 ∧ adry C.P (evl C.G (pvf ops o M tm vals i)) o.op = some v) ∨ dkind o.op = 1 ∨ dkind o.op = 2 ∨
        (dkind o.op = 3 ∧ ∃ (q : Nat) (H H' : AH) (df' : List ADef), hv[q]? = some i ∧ Hs[q]? = some H ∧ Hs[q + 1]? = some H' ∧ evOp C rec_ rd o.op (evl C.G (pvf ops o M tm vals i)) df H = some (.val v df' H')))))
theorem PFact.shift {rd : Option Nat} {ops : Array Oper} {M : List Nat} {tm : Trie Value} {df : List ADef} {vF : Trie Value} {Hs : List AH} {hv : List Nat} {i j : Nat} {H0 : AH} (p : PFact C rec_ rd ops M tm df vF Hs hv i) : PFact C rec_ rd ops M tm df vF (H0 :: Hs) (j :: hv) i := by
  obtain ⟨o, v, vals, h1, h2, h3, h4⟩ := p
  refine ⟨o, v, vals, h1, h2, h3, ?_⟩
  rcases h4 with ⟨a, b, c, d⟩ | ⟨a, b⟩
  · refine .inl ⟨a, b, c, fun hk => ?_⟩
    obtain ⟨q, H, k1, k2, k3⟩ := d hk
    exact ⟨q + 1, H, by simpa using k1, by simpa using k2, by simpa using k3⟩
  · refine .inr ⟨a, ?_⟩
    rcases b with b | b | b | ⟨b, q, H, H', df', k1, k2, k3, k4⟩
    · exact .inl b
    · exact .inr (.inl b)
    · exact .inr (.inr (.inl b))
    · exact .inr (.inr (.inr ⟨b, q + 1, H, H', df', by simpa using k1, by simpa using k2, by simpa using k3, k4⟩))

theorem VLe.refl (a : Trie Value) : VLe a a := fun _ _ h => h
theorem VLe.trans {a b c : Trie Value} (h : VLe a b) (k : VLe b c) : VLe a c := fun i v e => k i v (h i v e)
theorem VLe.put {a a' : Trie Value} {i : Nat} {v : Value} (h0 : a.get i = none) (h : a.put D i (some v) = some a') : VLe a a' ∧ a'.get i = some v ∧ ∀ m, a'.get m ≠ none → a.get m ≠ none ∨ m = i := by
  have hg := Trie.get_put _ _ _ _ _ h
  refine ⟨fun m u hm => ?_, by rw [hg, if_pos rfl], fun m hm => ?_⟩
  · rw [hg]
    by_cases e : m = i
    · subst e; rw [h0] at hm; cases hm
    · rw [if_neg e]; exact hm
  · rw [hg] at hm
    by_cases e : m = i
    · exact .inr e
    · rw [if_neg e] at hm; exact .inl hm

theorem isHv_eq {ops : Array Oper} {i : Nat} {o : Oper} (ho : ops.toList[i]? = some o) : isHv ops.toList i = Nat.beq (dkind o.op) 3 := by unfold isHv; rw [ho]

def PSpec (E : Nat → Option Value) (W0 : World) (C : Ctx) (rec_ : Task → Option Res) (rd : Option Nat) (ops : Array Oper) (M : List Nat) (tm : Trie Value) (df : List ADef) (l : List Nat) (vals : Trie Value) (cur : AH) (seen : Bool) (vF : Trie Value) (Hs : List AH) : Prop :=
  VLe vals vF ∧ Hs.length = (l.filter (isHv ops.toList)).length + 1 ∧
  (∃ H rest, Hs = H :: rest ∧ (seen = true → H = cur) ∧ cur.next ≤ H.next ∧ ∀ (σ : Emb) (w : World), HR E C.P C.G W0 σ cur w → HR E C.P C.G W0 σ H w) ∧
  (∀ i ∈ l, PFact C rec_ rd ops M tm df vF Hs (l.filter (isHv ops.toList)) i) ∧ ∀ i, vF.get i ≠ none → vals.get i ≠ none ∨ i ∈ l

theorem PSpec.light {rd : Option Nat} {ops : Array Oper} {M : List Nat} {tm : Trie Value} {df : List ADef} {i : Nat} {l : List Nat} {vals vals' : Trie Value} {cur cur' : AH} {seen seen' : Bool} {vF : Trie Value} {Hs : List AH} {o : Oper} {v : Value}
    (p : PSpec E W0 C rec_ rd ops M tm df l vals' cur' seen' vF Hs) (ho : ops.toList[i]? = some o) (hk : dkind o.op ≠ 3) (h0 : vals.get i = none) (hp : vals.put D i (some v) = some vals')
    (hs : seen = true → seen' = true ∧ cur' = cur) (hc : cur.next ≤ cur'.next) (hR : ∀ (σ : Emb) (w : World), HR E C.P C.G W0 σ cur w → HR E C.P C.G W0 σ cur' w)
    (hf : VLe vals vF → vF.get i = some v → PFact C rec_ rd ops M tm df vF Hs (l.filter (isHv ops.toList)) i) : PSpec E W0 C rec_ rd ops M tm df (i :: l) vals cur seen vF Hs := by
  obtain ⟨p1, p2, ⟨H, rest, p3, p4, p5, p6⟩, p7, p8⟩ := p
  obtain ⟨q1, q2, q3⟩ := VLe.put h0 hp
  have hfl : (i :: l).filter (isHv ops.toList) = l.filter (isHv ops.toList) := by
    rw [List.filter_cons, isHv_eq ho]
    have : Nat.beq (dkind o.op) 3 = false := by
      cases hb : Nat.beq (dkind o.op) 3 with
      | false => rfl
      | true => exact absurd (Trie.beq_true hb) hk
    rw [this]; rfl
  unfold PSpec
  rw [hfl]
  refine ⟨q1.trans p1, p2, ⟨H, rest, p3, fun h => ?_, Nat.le_trans hc p5, fun σ w h => p6 σ w (hR σ w h)⟩, fun j hj => ?_, fun j hj => ?_⟩
  · obtain ⟨e1, e2⟩ := hs h; rw [p4 e1, e2]
  · rcases List.mem_cons.1 hj with rfl | hj
    · exact hf (q1.trans p1) (p1 _ _ q2)
    · exact p7 j hj
  · rcases p8 j hj with h | h
    · rcases q3 j h with h | h
      · exact .inl h
      · exact .inr (h ▸ List.mem_cons_self)
    · exact .inr (List.mem_cons_of_mem _ h)

theorem PSpec.heavy {rd : Option Nat} {ops : Array Oper} {M : List Nat} {tm : Trie Value} {df : List ADef} {i : Nat} {l : List Nat} {vals vals' : Trie Value} {cur cur' : AH} {seen : Bool} {vF : Trie Value} {Hs : List AH} {o : Oper} {v : Value}
    (p : PSpec E W0 C rec_ rd ops M tm df l vals' cur' true vF Hs) (ho : ops.toList[i]? = some o) (hk : dkind o.op = 3) (h0 : vals.get i = none) (hp : vals.put D i (some v) = some vals')
    (hf : VLe vals vF → vF.get i = some v → Hs[0]? = some cur' → PFact C rec_ rd ops M tm df vF (cur :: Hs) (i :: l.filter (isHv ops.toList)) i) : PSpec E W0 C rec_ rd ops M tm df (i :: l) vals cur seen vF (cur :: Hs) := by
  obtain ⟨p1, p2, ⟨H, rest, p3, p4, p5, p6⟩, p7, p8⟩ := p
  obtain ⟨q1, q2, q3⟩ := VLe.put h0 hp
  have hfl : (i :: l).filter (isHv ops.toList) = i :: l.filter (isHv ops.toList) := by
    rw [List.filter_cons, isHv_eq ho, hk]; rfl
  unfold PSpec
  rw [hfl]
  refine ⟨q1.trans p1, by simp [p2], ⟨cur, Hs, rfl, fun _ => rfl, Nat.le_refl _, fun σ w h => h⟩, fun j hj => ?_, fun j hj => ?_⟩
  · rcases List.mem_cons.1 hj with rfl | hj
    · exact hf (q1.trans p1) (p1 _ _ q2) (by rw [p3, p4 rfl]; rfl)
    · exact (p7 j hj).shift
  · rcases p8 j hj with h | h
    · rcases q3 j h with h | h
      · exact .inl h
      · exact .inr (h ▸ List.mem_cons_self)
    · exact .inr (List.mem_cons_of_mem _ h)

theorem cons1_some {cur : AH} {r : Option (Trie Value × List AH)} {vF : Trie Value} {Hs : List AH} (h : cons1 cur r = some (vF, Hs)) : ∃ Hs', r = some (vF, Hs') ∧ Hs = cur :: Hs' := by
  unfold cons1 at h
  split at h
  · cases h
  · rename_i v l
    injection h with h; injection h with e1 e2
    exact ⟨l, by rw [e1], e2.symm⟩

theorem pass_spec {rd : Option Nat} {ops : Array Oper} {M : List Nat} {tm : Trie Value} {df : List ADef} : ∀ (l : List Nat) (vals : Trie Value) (cur : AH) (seen : Bool) (vF : Trie Value) (Hs : List AH),
    pass C rec_ rd ops M tm df l vals cur seen = some (vF, Hs) → PSpec E W0 C rec_ rd ops M tm df l vals cur seen vF Hs := by
  intro l
  induction l with
  | nil =>
    intro vals cur seen vF Hs h
    simp only [pass] at h
    injection h with h; injection h with e1 e2; subst e1 e2
    exact ⟨VLe.refl _, rfl, ⟨cur, [], rfl, fun _ => rfl, Nat.le_refl _, fun _ _ h => h⟩, (fun i hi => by cases hi), fun i hi => .inl hi⟩
  | cons i l ih =>
    intro vals cur seen vF Hs h
    simp only [pass] at h
    split at h
    · cases h
    · rename_i o ho
      split at h
      · cases h
      · rename_i h0
        split at h
        · cases h
        · rename_i hw
          split at h
          · cases h
          · rename_i vals' hp
            split at h
            · rename_i hk
              exact (ih _ _ _ _ _ h).light ho (by rw [hk]; decide) h0 hp (fun e => ⟨e, rfl⟩) (Nat.le_refl _) (fun _ _ h => h) fun k1 k2 => ⟨o, undef, vals, ho, k1, k2, .inl ⟨hw, rfl, by rw [hk]; decide, fun k => by rw [hk] at k; cases k⟩⟩
            · rename_i hk
              exact (ih _ _ _ _ _ h).light ho (by rw [hk]; decide) h0 hp (fun e => ⟨e, rfl⟩) (Nat.le_refl _) (fun _ _ h => h) fun k1 k2 => ⟨o, undef, vals, ho, k1, k2, .inl ⟨hw, rfl, by rw [hk]; decide, fun k => by rw [hk] at k; cases k⟩⟩
            · rename_i hk
              obtain ⟨Hs', h5, rfl⟩ := cons1_some h
              exact (ih _ _ _ _ _ h5).heavy ho hk h0 hp fun k1 k2 k3 => ⟨o, undef, vals, ho, k1, k2, .inl ⟨hw, rfl, by rw [hk]; decide, fun _ => ⟨0, cur, rfl, rfl, by simpa using k3⟩⟩⟩
            · cases h
        · rename_i hw
          split at h
          · rename_i hk
            split at h
            · cases h
            · rename_i v hv
              split at h
              · cases h
              · rename_i vals' hp
                exact (ih _ _ _ _ _ h).light ho (by rw [hk]; decide) h0 hp (fun e => ⟨e, rfl⟩) (Nat.le_refl _) (fun _ _ h => h) fun k1 k2 => ⟨o, v, vals, ho, k1, k2, .inr ⟨hw, .inl ⟨hk, hv⟩⟩⟩
          · rename_i hk
            split at h
            · cases h
            · rename_i v hv
              split at h
              · cases h
              · rename_i vals' hp
                exact (ih _ _ _ _ _ h).light ho (by rw [hk]; decide) h0 hp (fun e => ⟨e, rfl⟩) (Nat.le_refl _) (fun _ _ h => h) fun k1 k2 => ⟨o, v, vals, ho, k1, k2, .inr ⟨hw, .inr (.inl hk)⟩⟩
          · rename_i hk
            split at h
            · cases h
            · split at h
              · cases h
              · rename_i v cur' hv
                split at h
                · cases h
                · rename_i vals' hp
                  have hz : cur.next ≤ cur'.next ∧ ∀ (σ : Emb) (w : World), HR E C.P C.G W0 σ cur w → HR E C.P C.G W0 σ cur' w := by
                    unfold azeros at hv
                    split at hv
                    · cases hv
                    · split at hv
                      · cases hv
                      · split at hv
                        · cases hv
                        · rename_i blks hb
                          injection hv with hv; injection hv with e1 e2; subst e2
                          refine ⟨Nat.le_succ _, fun σ w hR => ?_⟩
                          show HF E C.P C.G W0 σ blks.get (cur.next + 1) w
                          rw [put_upd hb]; exact hR.name _
                  exact (ih _ _ _ _ _ h).light ho (by rw [hk]; decide) h0 hp (fun e => by cases e) hz.1 hz.2 fun k1 k2 => ⟨o, v, vals, ho, k1, k2, .inr ⟨hw, .inr (.inr (.inl hk))⟩⟩
          · rename_i hk
            split at h
            · rename_i v df' cur' hv
              split at h
              · cases h
              · rename_i vals' hp
                obtain ⟨Hs', h5, rfl⟩ := cons1_some h
                exact (ih _ _ _ _ _ h5).heavy ho hk h0 hp fun k1 k2 k3 => ⟨o, v, vals, ho, k1, k2, .inr ⟨hw, .inr (.inr (.inr ⟨hk, 0, cur, cur', df', rfl, rfl, by simpa using k3, hv⟩))⟩⟩
            · cases h
          · cases h

theorem tmF_spec {nt : Nat} {vF : Trie Value} : ∀ (l : List Oper) (k : Nat) (tm tm' : Trie Value), tmF nt vF l k tm = some tm' →
    (∀ t, (tm'.get t).getD undef = td (fun _ => true) vF t l k ((tm.get t).getD undef)) ∧ ∀ (j : Nat) o t, l[j]? = some o → o.dst = some t → t < nt := by
  intro l
  induction l with
  | nil =>
    intro k tm tm' h
    simp only [tmF] at h
    injection h with h; subst h
    exact ⟨fun t => rfl, fun j o t h => by simp at h⟩
  | cons o l ih =>
    intro k tm tm' h
    simp only [tmF] at h
    split at h
    · cases h
    · rename_i v hv
      split at h
      · cases h
      · rename_i tm1 ht
        obtain ⟨h1, h2⟩ := ih _ _ _ h
        cases hd : o.dst with
        | none =>
          rw [hd] at ht
          simp only [tput] at ht
          injection ht with ht; subst ht
          refine ⟨fun t => ?_, fun j p t hj hp => ?_⟩
          · rw [h1 t]; simp only [td]; rw [if_neg (by rw [hd]; simp)]
          · cases j with
            | zero => simp only [List.getElem?_cons_zero] at hj; injection hj with hj; subst hj; rw [hd] at hp; cases hp
            | succ j => exact h2 j p t (by simpa using hj) hp
        | some d =>
          rw [hd] at ht
          simp only [tput] at ht
          split at ht
          · rename_i hb
            have hb := ble_true hb
            refine ⟨fun t => ?_, fun j p t hj hp => ?_⟩
            · rw [h1 t]
              simp only [td]
              rw [Trie.get_put _ _ _ _ _ ht]
              by_cases e : t = d
              · subst e; rw [if_pos rfl, if_pos ⟨hd, trivial⟩, hv]
              · rw [if_neg e, if_neg (by rw [hd]; rintro ⟨h, -⟩; injection h with h; exact e h.symm)]
            · cases j with
              | zero => simp only [List.getElem?_cons_zero] at hj; injection hj with hj; subst hj; rw [hd] at hp; injection hp with hp; subst hp; exact hb
              | succ j => exact h2 j p t (by simpa using hj) hp
          · cases ht
theorem countB_le {hv : List Nat} {p : Nat → Bool} {q : Nat} (h : ∀ (k i : Nat), hv[k]? = some i → p i = true → k < q) : countB hv p ≤ q := by
  unfold countB
  induction hv generalizing q with
  | nil => simp
  | cons x l ih =>
    rw [List.filter_cons]
    cases q with
    | zero =>
      have hx : p x = false := by
        cases hp : p x with
        | false => rfl
        | true => exact absurd (h 0 x rfl hp) (Nat.lt_irrefl 0)
      rw [hx]
      simp only [Bool.false_eq_true, if_false]
      exact ih fun k i hk hp => absurd (h (k + 1) i (by simpa using hk) hp) (by omega)
    | succ q =>
      have := ih (q := q) fun k i hk hp => by have := h (k + 1) i (by simpa using hk) hp; omega
      split
      · simp only [List.length_cons]; omega
      · omega
theorem countB_ge {hv : List Nat} {p : Nat → Bool} {q : Nat} (hq : q ≤ hv.length) (h : ∀ (k i : Nat), hv[k]? = some i → p i = true → q ≤ k) : q + countB hv p ≤ hv.length := by
  unfold countB
  induction hv generalizing q with
  | nil => simpa using hq
  | cons x l ih =>
    rw [List.filter_cons]
    cases q with
    | zero =>
      have : (if p x = true then x :: List.filter p l else List.filter p l).length ≤ (x :: l).length := by
        have := List.length_filter_le p (x :: l)
        rwa [List.filter_cons] at this
      omega
    | succ q =>
      have hx : p x = false := by
        cases hp : p x with
        | false => rfl
        | true => exact absurd (h 0 x rfl hp) (by omega)
      rw [hx]
      simp only [Bool.false_eq_true, if_false]
      have := ih (q := q) (by simpa using hq) fun k i hk hp => by have := h (k + 1) i (by simpa using hk) hp; omega
      simp only [List.length_cons]; omega
theorem chain_spec {M : List Nat} : ∀ {l : List Nat}, chain M l = true → ∀ (k k' i j : Nat), k < k' → l[k]? = some i → l[k']? = some j → bef M i j = true := by
  intro l
  induction l with
  | nil => intro _ k k' i j _ h; simp at h
  | cons x l ih =>
    intro h k k' i j hkk hi hj
    simp only [chain, Bool.and_eq_true] at h
    cases k' with
    | zero => omega
    | succ k' =>
      simp only [List.getElem?_cons_succ] at hj
      cases k with
      | zero =>
        simp only [List.getElem?_cons_zero] at hi
        injection hi with hi; subst hi
        exact List.all_eq_true.1 h.1 j (List.mem_of_getElem? hj)
      | succ k =>
        simp only [List.getElem?_cons_succ] at hi
        exact ih h.2 k k' i j (by omega) hi hj

end
end Go.Ev

/- Ev: drawn regions are right. -/
namespace Go.Ev
noncomputable section
set_option linter.unusedVariables false
set_option linter.unusedSimpArgs false
variable {E : Nat → Option Value} {W0 : World} {C : Ctx} {rec_ : Task → Option Res}

/-- what is given of a region, once and for all -/
structure DG (C : Ctx) (rec_ : Task → Option Res) (rd : Option Nat) (nt : Nat) (ops : Array Oper) (M : List Nat) (tm : Trie Value) (df : List ADef) (h : AH) (vF : Trie Value) (Hs : List AH) (hv : List Nat) (tm' : Trie Value) : Prop where
  st : Stat8 ops M
  len : Hs.length = hv.length + 1
  hvs : ∀ (k i : Nat), hv[k]? = some i → isHv ops.toList i = true
  ch : chain M hv = true
  fact : ∀ (i : Nat) o, ops[i]? = some o → PFact C rec_ rd ops M tm df vF Hs hv i
  ok : ∀ (i : Nat) o, ops[i]? = some o → okOp C ops M tm vF h Hs hv i = true
  nm : ∀ i j, isZero ops.toList i = true → isZero ops.toList j = true → okNames vF i j = true
  tmf : tmF nt vF ops.toList 0 tm = some tm'

structure DS (E : Nat → Option Value) (W0 : World) (C : Ctx) (σ0 : Emb) (nt : Nat) (ops : Array Oper) (tm : Trie Value) (df : List ADef) (h : AH) (vF : Trie Value) (Hs : List AH) (hv : List Nat) (listed : Array Bool) (σ : Emb) (q : Nat) (H : AH) (a : Act) (w : World) : Prop where
  hH : Hs[q]? = some H
  lq : ∀ (k i : Nat), hv[k]? = some i → (listed.getD i false = true ↔ k < q)
  ext : Ext h.next σ0 σ
  nx : ∀ H0, Hs[0]? = some H0 → h.next ≤ H0.next ∧ H0.next ≤ H.next
  hr : HR E C.P C.G W0 σ H w
  tr : a.tmps.size = nt ∧ ∀ t, VR E σ (td (fun i => listed.getD i false) vF t ops.toList 0 ((tm.get t).getD undef)) (a.tmps.getD t undef)
  dl : DL E σ df a.defers
  zn : ∀ i, isZero ops.toList i = true → listed.getD i false = false → ∀ N, (vF.get i).bind nameOf = some N → σ N = none
  cl : ∀ (i : Nat) o, ops[i]? = some o → listed.getD i false = true → ∀ e ∈ o.after.toList, Region.binds .any e = true → listed.getD e.on false = true
  sz : listed.size = ops.size

variable {rd rd' : Option Nat} {nt : Nat} {ops : Array Oper} {M : List Nat} {tm tm' : Trie Value} {df : List ADef} {h : AH} {vF : Trie Value} {Hs : List AH} {hv : List Nat} {listed : Array Bool} {σ0 σ : Emb} {q : Nat} {H : AH} {a : Act} {w : World} {md : Region.Mode}

theorem toL {i : Nat} {o : Oper} (ho : ops[i]? = some o) : ops.toList[i]? = some o := by simpa using ho
theorem ofL {i : Nat} {o : Oper} (ho : ops.toList[i]? = some o) : ops[i]? = some o := by simpa using ho

/-- what is listed is closed under all that goes ahead -/
theorem bef_listed (g : Stat8 ops M) (cl : ∀ (i : Nat) o, ops[i]? = some o → listed.getD i false = true → ∀ e ∈ o.after.toList, Region.binds .any e = true → listed.getD e.on false = true) :
    ∀ (i j : Nat) o, ops[i]? = some o → bef M j i = true → listed.getD i false = true → listed.getD j false = true := by
  intro i
  induction i using Nat.strongRecOn with
  | ind i ih =>
    intro j o ho hb hl
    obtain ⟨e, he, hbd, h⟩ := (g.mask i o (toL ho)).1 j hb
    have hlt := (g.mask i o (toL ho)).2 e he hbd
    have hle := cl i o ho hl e he hbd
    rcases h with h | h
    · exact h ▸ hle
    · have hi : i < ops.size := (Array.getElem?_eq_some_iff.1 ho).1
      exact ih e.on hlt j ops[e.on] (Array.getElem?_eq_getElem (by omega)) h hle

structure Rdy (ops : Array Oper) (M : List Nat) (listed : Array Bool) (i : Nat) (o : Oper) : Prop where
  ho : ops[i]? = some o
  un : listed.getD i false = false
  lt : i < ops.size
  pre : ∀ j, bef M j i = true → listed.getD j false = true
  post : ∀ j, bef M i j = true → j < ops.size → listed.getD j false = false
  edge : ∀ e ∈ o.after.toList, Region.binds .any e = true → listed.getD e.on false = true
theorem rdy_of (g : Stat8 ops M) (s : DS E W0 C σ0 nt ops tm df h vF Hs hv listed σ q H a w) {i : Nat} (hr : i ∈ Region.ready md ops listed) : ∃ o, Rdy ops M listed i o := by
  obtain ⟨h1, o, ho, h2⟩ := mem_ready.1 hr
  have lt : i < ops.size := (Array.getElem?_eq_some_iff.1 ho).1
  have hlt : i < listed.size := by rw [s.sz]; exact lt
  have un : listed.getD i false = false := by simp [hlt] at h1 ⊢; exact h1
  have edge : ∀ e ∈ o.after.toList, Region.binds .any e = true → listed.getD e.on false = true := fun e he hb => h2 e (by simpa using he) (binds_any hb)
  refine ⟨o, ho, un, lt, fun j hb => ?_, fun j hb hj => ?_, edge⟩
  · obtain ⟨e, he, hbd, h⟩ := (g.mask i o (toL ho)).1 j hb
    have hlt := (g.mask i o (toL ho)).2 e he hbd
    rcases h with h | h
    · exact h ▸ edge e he hbd
    · exact bef_listed g s.cl e.on j ops[e.on] (Array.getElem?_eq_getElem (by omega)) h (edge e he hbd)
  · cases hl : listed.getD j false with
    | false => rfl
    | true =>
      have := bef_listed g s.cl j i ops[j] (Array.getElem?_eq_getElem hj) hb hl
      rw [un] at this; cases this

theorem getD_set_self {i : Nat} (hi : i < listed.size) : (listed.setIfInBounds i true).getD i false = true := by simp [hi]
theorem getD_set_ne' {i j : Nat} (h : j ≠ i) : (listed.setIfInBounds i true).getD j false = listed.getD j false := by
  rw [Array.getD_eq_getD_getElem?, Array.getD_eq_getD_getElem?, Array.getElem?_setIfInBounds_ne (fun e => h e.symm)]

theorem look_L (g : Stat8 ops M) {i : Nat} {o : Oper} (r : Rdy ops M listed i o) {t : Nat} (ht : t ∈ looksD ops o) : ∀ (j : Nat) p, ops.toList[j]? = some p → p.dst = some t → listed.getD j false = bef M j i := by
  intro j p hp hd
  have hj : j < ops.size := (Array.getElem?_eq_some_iff.1 (ofL hp)).1
  by_cases hij : i = j
  · subst hij
    rw [r.un]
    cases hb : bef M i i with
    | false => rfl
    | true => exact absurd (bef_lt g i i o (toL r.ho) hb) (Nat.lt_irrefl _)
  · rcases g.tmp i j o p t (toL r.ho) hp hij hd ht with hb | hb
    · rw [r.post j hb hj]
      cases hb2 : bef M j i with
      | false => rfl
      | true =>
        have h1 := bef_lt g i j o (toL r.ho) hb2
        have h2 := bef_lt g j i p hp hb
        omega
    · rw [r.pre j hb, hb]

/-- what the way saw of a temporary is what lies there -/
theorem hpv (g : Stat8 ops M) (s : DS E W0 C σ0 nt ops tm df h vF Hs hv listed σ q H a w) {i : Nat} {o : Oper} (r : Rdy ops M listed i o) {vals : Trie Value} (hle : VLe vals vF) :
    ∀ t u, pvf ops o M tm vals i t = some u → VR E σ u (a.tmps.getD t undef) := by
  intro t u hu
  have := pvf_td (L := fun i => listed.getD i false) hle (fun j p hp hd ht => look_L g r ht j p hp hd) hu
  rw [← this]; exact s.tr.2 t
theorem hev (g : Stat8 ops M) (s : DS E W0 C σ0 nt ops tm df h vF Hs hv listed σ q H a w) {i : Nat} {o : Oper} (r : Rdy ops M listed i o) {vals : Trie Value} (hle : VLe vals vF) :
    ∀ x u, evl C.G (pvf ops o M tm vals i) x = some u → VR E σ u (a.eval x) := by
  intro x u hx
  exact evl_sound s.hr.glob (fun t v ht => hpv g s r hle t v ht) (fun v => rfl) (fun g => rfl) (fun f => rfl) hx

/-- one operation more -/
theorem DS.step (dg : DG C rec_ rd nt ops M tm df h vF Hs hv tm') (s : DS E W0 C σ0 nt ops tm df h vF Hs hv listed σ q H a w) {i : Nat} {o : Oper} (r : Rdy ops M listed i o) {σ' : Emb} {q' : Nat} {H' : AH} {v v' : Value} {w' : World} {ds : List Deferred}
    (hH : Hs[q']? = some H') (lq : ∀ (k j : Nat), hv[k]? = some j → ((listed.setIfInBounds i true).getD j false = true ↔ k < q')) (hle : Le σ σ') (hx : Ext h.next σ0 σ') (hnx : H.next ≤ H'.next) (hvi : vF.get i = some v) (hvv : VR E σ' v v')
    (hR : HR E C.P C.G W0 σ' H' w') (hdl : DL E σ' df ds) (zn : ∀ j, j ≠ i → isZero ops.toList j = true → listed.getD j false = false → ∀ N, (vF.get j).bind nameOf = some N → σ' N = none) :
    DS E W0 C σ0 nt ops tm df h vF Hs hv (listed.setIfInBounds i true) σ' q' H' ({ a with defers := ds }.put o.dst v') w' := by
  have hlt : i < listed.size := by rw [s.sz]; exact r.lt
  refine ⟨hH, lq, hx, fun H0 h0 => ⟨(s.nx H0 h0).1, Nat.le_trans (s.nx H0 h0).2 hnx⟩, hR, ?_, ?_, fun j hj hl N hN => ?_, fun j p hp hl e he hb => ?_, by simp [s.sz]⟩
  · have same : ∀ t, o.dst ≠ some t → td (fun j => (listed.setIfInBounds i true).getD j false) vF t ops.toList 0 ((tm.get t).getD undef) = td (fun j => listed.getD j false) vF t ops.toList 0 ((tm.get t).getD undef) := by
      intro t ht
      refine td_congr _ _ _ fun j p hp hd => ?_
      rw [Nat.zero_add]
      refine getD_set_ne' fun e => ht ?_
      subst e
      rw [toL r.ho] at hp; injection hp with hp; subst hp; exact hd
    cases hd : o.dst with
    | none =>
      refine ⟨by simpa [Act.put] using s.tr.1, fun t => ?_⟩
      rw [same t (by rw [hd]; simp)]
      exact (s.tr.2 t).mono hle
    | some d =>
      have hdn := (tmF_spec _ _ _ _ dg.tmf).2 i o d (toL r.ho) hd
      refine ⟨by simp [Act.put, s.tr.1], fun t => ?_⟩
      by_cases e : t = d
      · subst e
        have hl := td_last (L := fun j => (listed.setIfInBounds i true).getD j false) (vF := vF) hd (getD_set_self hlt) ops.toList 0 ((tm.get t).getD undef) (Nat.zero_le _) (by rw [Nat.sub_zero]; exact toL r.ho) fun j p hp hdp hL => by
          rw [Nat.zero_add] at hL ⊢
          by_cases hji : j = i
          · omega
          · have hL : (listed.setIfInBounds i true).getD j false = true := hL
            rw [getD_set_ne' hji] at hL
            have hm : t ∈ looksD ops o := by unfold looksD; rw [hd]; simp
            rw [look_L dg.st r hm j p hp hdp] at hL
            exact Nat.le_of_lt (bef_lt dg.st i j o (toL r.ho) hL)
        rw [hl, hvi]
        have : t < a.tmps.size := by rw [s.tr.1]; exact hdn
        simp [Act.put, this]; exact hvv
      · rw [same t (by rw [hd]; intro hh; injection hh with hh; exact e hh.symm)]
        have := (s.tr.2 t).mono hle
        simpa [Act.put, Array.getD_eq_getD_getElem?, Array.getElem?_setIfInBounds_ne (fun hh => e hh.symm)] using this
  · cases hd : o.dst <;> simpa [Act.put, hd] using hdl
  · by_cases e : j = i
    · subst e; rw [getD_set_self hlt] at hl; cases hl
    · rw [getD_set_ne' e] at hl; exact zn j e hj hl N hN
  · have : listed.getD e.on false = true := by
      by_cases hji : j = i
      · subst hji
        rw [r.ho] at hp; injection hp with hp; subst hp
        exact r.edge e he hb
      · rw [getD_set_ne' hji] at hl; exact s.cl j p hp hl e he hb
    by_cases hei : e.on = i
    · rw [hei]; exact getD_set_self hlt
    · rw [getD_set_ne' hei]; exact this

theorem lq_light (dg : DG C rec_ rd nt ops M tm df h vF Hs hv tm') (s : DS E W0 C σ0 nt ops tm df h vF Hs hv listed σ q H a w) {i : Nat} {o : Oper} (r : Rdy ops M listed i o) (hk : dkind o.op ≠ 3) :
    ∀ (k j : Nat), hv[k]? = some j → ((listed.setIfInBounds i true).getD j false = true ↔ k < q) := by
  intro k j hj
  have hne : j ≠ i := by
    rintro rfl
    have := dg.hvs k j hj
    rw [isHv_eq (toL r.ho)] at this
    exact hk (Trie.beq_true this)
  rw [getD_set_ne' hne]
  exact s.lq k j hj
theorem at_q (dg : DG C rec_ rd nt ops M tm df h vF Hs hv tm') (s : DS E W0 C σ0 nt ops tm df h vF Hs hv listed σ q H a w) {i k : Nat} {o : Oper} (r : Rdy ops M listed i o) (hk : hv[k]? = some i) : k = q := by
  have h1 : ¬ k < q := fun hh => by
    have := (s.lq k i hk).2 hh
    rw [r.un] at this; cases this
  rcases Nat.lt_or_ge q k with h2 | h2
  · have hlt : k < hv.length := (List.getElem?_eq_some_iff.1 hk).1
    have hq : hv[q]? = some (hv[q]'(by omega)) := List.getElem?_eq_getElem (by omega)
    have hb := chain_spec dg.ch q k _ i h2 hq hk
    have := (s.lq q _ hq).1 (r.pre _ hb)
    omega
  · omega
theorem lq_heavy (dg : DG C rec_ rd nt ops M tm df h vF Hs hv tm') (s : DS E W0 C σ0 nt ops tm df h vF Hs hv listed σ q H a w) {i : Nat} {o : Oper} (r : Rdy ops M listed i o) (hq : hv[q]? = some i) :
    ∀ (k j : Nat), hv[k]? = some j → ((listed.setIfInBounds i true).getD j false = true ↔ k < q + 1) := by
  intro k j hj
  have hlt : i < listed.size := by rw [s.sz]; exact r.lt
  by_cases e : j = i
  · subst e
    have := at_q dg s r hj
    rw [getD_set_self hlt]
    simp; omega
  · rw [getD_set_ne' e, s.lq k j hj]
    have : k ≠ q := by
      rintro rfl
      rw [hq] at hj; injection hj with hj; exact e hj.symm
    omega
theorem q_le (dg : DG C rec_ rd nt ops M tm df h vF Hs hv tm') (s : DS E W0 C σ0 nt ops tm df h vF Hs hv listed σ q H a w) : q ≤ hv.length := by
  have := (List.getElem?_eq_some_iff.1 s.hH).1
  have := dg.len
  omega

theorem dstep (ok : COK E W0 C) (hrec : ∀ t r, rec_ t = some r → TaskOK E W0 C t r) (hrd : RD σ0 rd rd') (dom0 : ∀ b c, σ0 b = some c → b < h.next) (dg : DG C rec_ rd nt ops M tm df h vF Hs hv tm')
    (s : DS E W0 C σ0 nt ops tm df h vF Hs hv listed σ q H a w) {i : Nat} (hr : i ∈ Region.ready md ops listed) (Q : Exit → Act → World → Prop) :
    wpOpIn (FW rd') 0 C.P ops Q i (fun a' w' => ∃ σ' q' H', DS E W0 C σ0 nt ops tm df h vF Hs hv (listed.setIfInBounds i true) σ' q' H' a' w') a w := by
  obtain ⟨o, r⟩ := rdy_of dg.st s hr
  have le0 : Le σ0 σ := fun b c e => by
    have := s.ext b (dom0 b c e)
    exact ⟨by rw [this.1]; exact e, this.2⟩
  have hrd1 : RD σ rd rd' := hrd.mono le0
  unfold Go.wpOpIn
  rw [r.ho]
  dsimp only
  obtain ⟨o', v, vals, ho', hle, hvi, hf⟩ := dg.fact i o r.ho
  have : o' = o := by rw [toL r.ho] at ho'; injection ho' with ho'; exact ho'.symm
  subst this
  have hp := hpv dg.st s r hle
  have he := hev dg.st s r hle
  have hmem : h.next ≤ H.next ∧ ∀ H0, Hs[0]? = some H0 → H0.next ≤ H.next := by
    have h0 : 0 < Hs.length := by rw [dg.len]; omega
    exact ⟨Nat.le_trans (s.nx _ (List.getElem?_eq_getElem h0)).1 (s.nx _ (List.getElem?_eq_getElem h0)).2, fun H0 e => (s.nx H0 e).2⟩
  have zname : ∀ j, isZero ops.toList j = true → ∀ N, (vF.get j).bind nameOf = some N → h.next ≤ N ∧ N < H.next := by
    intro j hj N hN
    unfold isZero at hj
    split at hj
    · rename_i p hp
      have hk := Trie.beq_true hj
      have hok := dg.ok j p (ofL hp)
      unfold okOp at hok
      rw [hp] at hok
      split at hok
      · rename_i o2 v2 e1 e2
        injection e1 with e1; subst e1
        rw [hk] at hok
        simp only [okZero] at hok
        split at hok
        · rename_i e n k N' hz hN'
          simp only [Bool.and_eq_true] at hok
          obtain ⟨⟨⟨⟨k1, k2⟩, k3⟩, k4⟩, k5⟩ := hok
          rw [e2] at hN
          simp only [Option.bind_some] at hN
          rw [hN'] at hN; injection hN with hN; subst hN
          refine ⟨ble_true k2, ?_⟩
          split at k4
          · rename_i H0 h0
            have := ble_true k4
            have := hmem.2 H0 h0
            omega
          · cases k4
        · cases hok
      · cases hok
    · cases hj
  have zn1 : ∀ {σ' : Emb}, Ext H.next σ σ' → ∀ j, j ≠ i → isZero ops.toList j = true → listed.getD j false = false → ∀ N, (vF.get j).bind nameOf = some N → σ' N = none := by
    intro σ' hx j _ hj hl N hN
    rw [(hx N (zname j hj N hN).2).1]
    exact s.zn j hj hl N hN
  rcases hf with ⟨hw, rfl, hk2, hk3⟩ | ⟨hw, hf⟩
  · rw [want_sound' hp hw]
    simp only [Bool.false_eq_true, if_false]
    refine ⟨fun f _ => FW_fn _ f, ?_⟩
    by_cases h3 : dkind o'.op = 3
    · obtain ⟨q1, H1, e1, e2, e3⟩ := hk3 h3
      obtain rfl := at_q dg s r e1
      have : H1 = H := by rw [s.hH] at e2; injection e2 with e2; exact e2.symm
      subst this
      exact ⟨σ, q1 + 1, H1, s.step dg r (ds := a.defers) e3 (lq_heavy dg s r e1) (Le.refl _) s.ext (Nat.le_refl _) hvi VR.undef s.hr s.dl (zn1 (Ext.refl _ _))⟩
    · exact ⟨σ, q, H, s.step dg r (ds := a.defers) s.hH (lq_light dg s r h3) (Le.refl _) s.ext (Nat.le_refl _) hvi VR.undef s.hr s.dl (zn1 (Ext.refl _ _))⟩
  · rw [want_sound' hp hw]
    simp only [if_true]
    have nodef : dkind o'.op ≠ 4 → ∀ c, o'.op ≠ .defer c := fun h4 c hc => h4 (by rw [hc]; rfl)
    rcases hf with ⟨hk, hd⟩ | hk | hk | ⟨hk, q1, H1, H', df', e1, e2, e3, hop⟩
    · obtain ⟨v', h1, h2⟩ := adry_sound (o := o') (ρ := a.eval) he hd
      refine did_post (rd' := rd') s.hr s.dl (nodef (by rw [hk]; decide)) ⟨σ, v', w, .inl (h2 w), Ext.refl _ _, h1, s.hr, Nat.le_refl _⟩ _ Q fun σ' v' w' ds hx hn hvv hR hds => ?_
      exact ⟨σ', q, H, s.step dg r s.hH (lq_light dg s r (by rw [hk]; decide)) (Ext.le s.hr hx) (Ext.trans hmem.1 s.ext hx) (Nat.le_refl _) hvi hvv hR hds (zn1 hx)⟩
    · have hok := dg.ok i o' r.ho
      unfold okOp at hok
      rw [toL r.ho, hvi] at hok
      simp only [hk] at hok
      have hp2 := hpv dg.st s r (VLe.refl vF)
      have he2 := hev dg.st s r (VLe.refl vF)
      split at hok
      · have hq := List.all_eq_true.1 hok q (List.mem_range.2 (Nat.lt_succ_of_le (q_le dg s)))
        unfold okRead at hq
        simp only [Bool.or_eq_true] at hq
        rcases hq with (hq | hq) | hq
        · have := ble_true hq
          have := countB_le (hv := hv) (p := fun j => bef M j i) (q := q) fun k j hj hb => (s.lq k j hj).1 (r.pre j hb)
          omega
        · have := ble_true hq
          have := countB_ge (hv := hv) (p := fun j => bef M i j) (q_le dg s) fun k j hj hb => by
            have hjs : j < ops.size := by simpa using isHv_lt (dg.hvs k j hj)
            have hl := r.post j hb hjs
            rcases Nat.lt_or_ge k q with h' | h'
            · have := (s.lq k j hj).2 h'; rw [hl] at this; cases this
            · exact h'
          omega
        · rw [s.hH] at hq
          simp only [] at hq
          split at hq
          · rename_i u hu
            have := veq_sound hq
            subst this
            obtain ⟨v', h1, h2⟩ := aread_sound s.hr (o := o') (ρ := a.eval) he2 hu
            refine did_post (rd' := rd') s.hr s.dl (nodef (by rw [hk]; decide)) ⟨σ, v', w, .inl h2, Ext.refl _ _, h1, s.hr, Nat.le_refl _⟩ _ Q fun σ' v' w' ds hx hn hvv hR hds => ?_
            exact ⟨σ', q, H, s.step dg r s.hH (lq_light dg s r (by rw [hk]; decide)) (Ext.le s.hr hx) (Ext.trans hmem.1 s.ext hx) (Nat.le_refl _) hvi hvv hR hds (zn1 hx)⟩
          · cases hq
      · rename_i hw2
        have h1 := want_sound' hp hw
        have h2 := want_sound' hp2 hw2
        rw [h1] at h2; cases h2
      · cases hok
    · have hok := dg.ok i o' r.ho
      unfold okOp at hok
      rw [toL r.ho, hvi] at hok
      simp only [hk, okZero] at hok
      have he2 := hev dg.st s r (VLe.refl vF)
      have hzi : isZero ops.toList i = true := by unfold isZero; rw [toL r.ho]; simp only [hk]; rfl
      split at hok
      · rename_i e n k N hz hN
        simp only [Bool.and_eq_true] at hok
        obtain ⟨⟨⟨⟨k1, k2⟩, k3⟩, k4⟩, k5⟩ := hok
        have k1 := veq_sound k1
        have hbn : (vF.get i).bind nameOf = some N := by rw [hvi]; exact hN
        have hnone := s.zn i hzi r.un N hbn
        have hNb := zname i hzi N hbn
        have hq := List.all_eq_true.1 k5 q (List.mem_range.2 (Nat.lt_succ_of_le (q_le dg s)))
        unfold okZeroAt at hq
        simp only [Bool.or_eq_true] at hq
        have hrow : H.blks.get N = some (.row ⟨.nil, n, e, true⟩) := by
          rcases hq with hq | hq
          · have := ble_true hq
            have := countB_ge (hv := hv) (p := fun j => bef M i j) (q_le dg s) fun k j hj hb => by
              have hjs : j < ops.size := by simpa using isHv_lt (dg.hvs k j hj)
              have hl := r.post j hb hjs
              rcases Nat.lt_or_ge k q with h' | h'
              · have := (s.lq k j hj).2 h'; rw [hl] at this; cases this
              · exact h'
            omega
          · rw [s.hH] at hq
            simp only [zeroRow] at hq
            split at hq
            · rename_i n' e' hg
              simp only [Bool.and_eq_true] at hq
              rw [hg, Trie.beq_true hq.1, Trie.beq_true hq.2]
            · cases hq
        obtain ⟨c, h1, h2⟩ := azero_sound (o := o') (ρ := a.eval) (σ := σ) he2 hz
        have hpl := s.hr.place (b := N) (k := 0) (o := .row ⟨.nil, n, e, true⟩) (ob := .cells c e (0, 0)) hnone (h2 _) hrow hNb.2 (ble_true k3) (w' := w.alloc (.cells c e)) rfl
        have hle' : Le σ (ext σ N w.heap.size 0) := fun x y exy => by
          by_cases hx : x = N
          · subst hx; rw [hnone] at exy; cases exy
          · rw [ext_ne hx]; exact ⟨exy, ext_sl_ne hx⟩
        have hx' : Ext h.next σ0 (ext σ N w.heap.size 0) := fun x hx => by
          have hne : x ≠ N := by omega
          rw [ext_ne hne, ext_sl_ne hne]; exact s.ext x hx
        refine ⟨fun f _ => FW_fn _ f, ?_⟩
        rw [sem_at (nodef (by rw [hk]; decide)), h1 w]
        refine ⟨ext σ N w.heap.size 0, q, H, s.step dg r (ds := a.defers) s.hH (lq_light dg s r (by rw [hk]; decide)) hle' hx' (Nat.le_refl _) hvi ?_ hpl (s.dl.mono hle') fun j hji hj hl N' hN' => ?_⟩
        · rw [← k1]; exact zval_vr k (ext_self _ _ _ _)
        · have hnn : N' ≠ N := by
            have := dg.nm i j hzi hj
            unfold okNames at this
            rw [hbn, hN'] at this
            simp only [Bool.or_eq_true] at this
            rcases this with h' | h'
            · exact absurd (Trie.beq_true h').symm hji
            · rintro rfl
              simp at h'
          rw [ext_ne hnn]
          exact s.zn j hj hl N' hN'
      · cases hok
    · obtain rfl := at_q dg s r e1
      have : H1 = H := by rw [s.hH] at e2; injection e2 with e2; exact e2.symm
      subst this
      have hdf := evOp_df hop (nodef (by rw [hk]; decide))
      subst hdf
      refine evOp_sound ok hrec s.hr s.dl he hrd1 hop _ Q fun σ' v' w' ds hx hn hvv hR hds => ?_
      exact ⟨σ', q1 + 1, H', s.step dg r e3 (lq_heavy dg s r e1) (Ext.le s.hr hx) (Ext.trans hmem.1 s.ext hx) hn hvi hvv hR hds (zn1 hx)⟩

theorem count_set {i : Nat} (hi : i < listed.size) (hl : listed.getD i false = false) : (listed.setIfInBounds i true).toList.count false + 1 = listed.toList.count false := by
  have h1 : listed.toList[i]'(by simpa using hi) = false := by simpa [hi] using hl
  have h2 : (listed.setIfInBounds i true).toList = listed.toList.set i true := by simp
  have h3 : 0 < listed.toList.count false := List.count_pos_iff.2 (h1 ▸ List.getElem_mem _)
  rw [h2, List.count_set (by simpa using hi), h1]
  simp only [beq_self_eq_true, if_true]
  have : (true == false) = false := rfl
  rw [this]
  simp only [Bool.false_eq_true, if_false]
  omega

theorem dall (ok : COK E W0 C) (hrec : ∀ t r, rec_ t = some r → TaskOK E W0 C t r) (hrd : RD σ0 rd rd') (dom0 : ∀ b c, σ0 b = some c → b < h.next) (dg : DG C rec_ rd nt ops M tm df h vF Hs hv tm') {h' : AH} (hh' : Hs[hv.length]? = some h') :
    ∀ (fuel : Nat) (listed : Array Bool) (σ : Emb) (q : Nat) (H : AH) (a : Act) (w : World), DS E W0 C σ0 nt ops tm df h vF Hs hv listed σ q H a w → listed.toList.count false ≤ fuel →
      wpAnyIn (FW rd') 0 C.P md ops (Post E W0 C σ0 nt h .normal tm' df h') fuel listed a w := by
  have fin : ∀ (listed : Array Bool) (σ : Emb) (q : Nat) (H : AH) (a : Act) (w : World), DS E W0 C σ0 nt ops tm df h vF Hs hv listed σ q H a w → Region.ready md ops listed = [] → Post E W0 C σ0 nt h .normal tm' df h' .normal a w := by
    intro listed σ q H a w s hr
    obtain ⟨ord, ho⟩ := dg.st.ord md
    have all : ∀ i, i < ops.size → listed.getD i false = true := fun i hi => (okOrd_ready s.sz ord 0 ho (fun i hi => by simp at hi) hr i hi).2
    have hq : q = hv.length := by
      have h1 := q_le dg s
      rcases Nat.lt_or_ge q hv.length with h2 | h2
      · have hk : hv[q]? = some hv[q] := List.getElem?_eq_getElem h2
        have hjs : hv[q] < ops.size := by simpa using isHv_lt (dg.hvs q _ hk)
        have := (s.lq q _ hk).1 (all _ hjs)
        omega
      · omega
    subst hq
    have : H = h' := by have := s.hH; rw [hh'] at this; injection this with this; exact this.symm
    subst this
    have h0 : 0 < Hs.length := by rw [dg.len]; omega
    have hn := s.nx _ (List.getElem?_eq_getElem h0)
    refine ⟨σ, s.ext, Nat.le_trans hn.1 hn.2, trivial, ⟨s.tr.1, fun t => ?_⟩, s.dl, s.hr⟩
    rw [(tmF_spec _ _ _ _ dg.tmf).1 t]
    have : td (fun _ => true) vF t ops.toList 0 ((tm.get t).getD undef) = td (fun i => listed.getD i false) vF t ops.toList 0 ((tm.get t).getD undef) := by
      refine td_congr _ _ _ fun j p hp hd => ?_
      rw [Nat.zero_add]
      exact (all j (Array.getElem?_eq_some_iff.1 (ofL hp)).1).symm
    rw [this]; exact s.tr.2 t
  intro fuel
  induction fuel with
  | zero =>
    intro listed σ q H a w s hc
    have hr : Region.ready md ops listed = [] := by
      cases hr : Region.ready md ops listed with
      | nil => rfl
      | cons i l =>
        obtain ⟨o, r⟩ := rdy_of dg.st s (i := i) (md := md) (by rw [hr]; exact List.mem_cons_self)
        have := count_set (listed := listed) (by rw [s.sz]; exact r.lt) r.un
        omega
    exact ⟨hr, fin _ _ _ _ _ _ s hr⟩
  | succ fuel ih =>
    intro listed σ q H a w s hc
    refine ⟨fin _ _ _ _ _ _ s, fun i hi => ?_⟩
    refine wpOpIn_mono (fun a' w' hh => ?_) (dstep ok hrec hrd dom0 dg s hi _)
    obtain ⟨σ', q', H', s'⟩ := hh
    obtain ⟨o, r⟩ := rdy_of dg.st s hi
    have := count_set (listed := listed) (by rw [s.sz]; exact r.lt) r.un
    exact ih _ σ' q' H' a' w' s' (by omega)

theorem evDraw_sound (ok : COK E W0 C) (hrec : ∀ t r, rec_ t = some r → TaskOK E W0 C t r) (rd : Option Nat) (nt : Nat) (ops : Array Oper) (tm : Trie Value) (df : List ADef) (h : AH) (r : Res) (id : Nat)
    (e : evDraw C rec_ rd nt ops tm df h = some r) : TaskOK E W0 C (.code rd nt (.region id ops true) tm df h) r := by
  unfold evDraw at e
  split at e
  · cases e
  · rename_i hst
    split at e
    · cases e
    · rename_i vF Hs hp
      split at e
      · cases e
      · rename_i hck
        simp only [Bool.and_eq_true] at hck
        obtain ⟨⟨c1, c2⟩, c3⟩ := hck
        split at e
        · rename_i tm' h' ht hh
          injection e with e; subst e
          have hps : ∀ (E : Nat → Option Value) (W0 : World), _ := fun E W0 => pass_spec (E := E) (W0 := W0) _ _ _ _ _ _ hp
          intro σ w a rd' s hrd
          obtain ⟨p1, p2, ⟨H, rest, p3, p4, p5, p6⟩, p7, p8⟩ := hps E W0
          have hok : ∀ (i : Nat) o, ops[i]? = some o → okOp C ops (masks ops.toList []) tm vF h Hs ((plan ops.toList).filter (isHv ops.toList)) i = true := fun i o ho =>
            List.all_eq_true.1 c1 i (List.mem_range.2 (by simpa using (Array.getElem?_eq_some_iff.1 ho).1))
          have dg : DG C rec_ rd nt ops (masks ops.toList []) tm df h vF Hs ((plan ops.toList).filter (isHv ops.toList)) tm' := by
            refine ⟨static_spec hst, p2, fun k i hk => (List.mem_filter.1 (List.mem_of_getElem? hk)).2, c3, fun i o ho => ?_, hok, fun i j hi hj => ?_, ht⟩
            · have := hok i o ho
              unfold okOp at this
              rw [toL ho] at this
              split at this
              · rename_i o2 v e1 e2
                rcases p8 i (by rw [e2]; simp) with h1 | h1
                · exact absurd rfl h1
                · exact p7 i h1
              · cases this
            · have lt : ∀ x, isZero ops.toList x = true → x ∈ zeros ops.toList := fun x hx => List.mem_filter.2 ⟨List.mem_range.2 (by
                unfold isZero at hx
                split at hx
                · rename_i o ho; exact (List.getElem?_eq_some_iff.1 ho).1
                · cases hx), hx⟩
              exact allPairs_spec c2 (lt i hi) (lt j hj)
          have hR0 : HR E C.P C.G W0 σ h { w with drawn := w.drawn + 1 } := s.hr.of_heap rfl
          have s0 : DS E W0 C σ nt ops tm df h vF Hs ((plan ops.toList).filter (isHv ops.toList)) (Array.replicate ops.size false) σ 0 H a { w with drawn := w.drawn + 1 } := by
            have un : ∀ i, (Array.replicate ops.size false).getD i false = false := fun i => by
              rw [Array.getD_eq_getD_getElem?, Array.getElem?_replicate]; split <;> rfl
            refine ⟨by rw [p3]; rfl, fun k i hk => by rw [un]; simp, Ext.refl _ _, fun H0 h0 => ?_, p6 _ _ hR0, ⟨s.tr.1, fun t => ?_⟩, s.dl, fun i hi _ N hN => ?_, fun i o ho hl => (by rw [un] at hl; cases hl), by simp⟩
            · rw [p3] at h0; injection h0 with h0; subst h0; exact ⟨p5, Nat.le_refl _⟩
            · rw [td_none _ _ _ fun j o _ _ => un _]; exact s.tr.2 t
            · -- a zero block's name is new
              have hb : h.next ≤ N := by
                unfold isZero at hi
                split at hi
                · rename_i p hp2
                  have hk := Trie.beq_true hi
                  have hok := hok i p (ofL hp2)
                  unfold okOp at hok
                  rw [hp2] at hok
                  split at hok
                  · rename_i o2 v2 e1 e2
                    injection e1 with e1; subst e1
                    rw [hk] at hok
                    simp only [okZero] at hok
                    split at hok
                    · rename_i e n k N' hz hN'
                      simp only [Bool.and_eq_true] at hok
                      rw [e2] at hN
                      simp only [Option.bind_some] at hN
                      rw [hN'] at hN; injection hN with hN; subst hN
                      exact ble_true hok.1.1.1.2
                    · cases hok
                  · cases hok
                · cases hi
              cases hs : σ N with
              | none => rfl
              | some c => have := (s.hr.dom N c hs).1; omega
          refine wpIn_region_draw fun t => ?_
          have dom0 : ∀ b c, σ b = some c → b < h.next := fun b c e => (s.hr.dom b c e).1
          have cnt : (Array.replicate ops.size false).toList.count false ≤ ops.size := by simp
          have any : ∀ md t, wpOpsIn (FW rd') 0 C.P ops (Post E W0 C σ nt h .normal tm' df h') (Region.linearise md ops t) a { w with drawn := w.drawn + 1 } := fun md t =>
            wpAnyIn_sound ops.size t _ a _ (dall (md := md) ok hrec hrd dom0 dg hh ops.size _ σ 0 H a _ s0 cnt)
          unfold Region.schedule
          split
          · exact any _ _
          · exact any _ _
        · cases e

/-- ALL OF IT, drawn regions too -/
theorem evd_sound (ok : COK E W0 C) : ∀ (n : Nat) (t : Task) (r : Res), ev C (evDraw C) n t = some r → TaskOK E W0 C t r :=
  ev_sound ok fun rec_ hrec rd nt ops tm df h r id e => evDraw_sound ok hrec rd nt ops tm df h r id e

end
end Go.Ev

/- Ev: a call that was reckoned ahead: it stands for itself wherever the memory has what it needs. -/
namespace Go.Ev
noncomputable section
set_option linter.unusedVariables false
set_option linter.unusedSimpArgs false

def bIf {α : Type} (b : Bool) (x y : α) : α := @Bool.rec (fun _ => α) y x b
theorem bIf_true {α : Type} {x y : α} : bIf true x y = x := rfl
theorem bIf_false {α : Type} {x y : α} : bIf false x y = y := rfl

/-- two equal values, the commonest first -/
def veq1 (a b : Value) : Bool :=
  match a with
  | .int k x => match b with
    | .int j y => bIf (Nat.beq (kidx k) (kidx j)) (@Int.rec (fun _ => Bool) (fun m => @Int.rec (fun _ => Bool) (fun n => Nat.beq m n) (fun _ => false) y) (fun m => @Int.rec (fun _ => Bool) (fun _ => false) (fun n => Nat.beq m n) y) x) false
    | _ => false
  | .bool x => match b with
    | .bool y => @Bool.rec (fun _ => Bool) (Bool.not y) y x
    | _ => false
  | a => veq vfuel a b
theorem veq1_sound {a b : Value} (h : veq1 a b = true) : a = b := by
  cases a with
  | int k x =>
    cases b with
    | int j y =>
      cases hk : Nat.beq (kidx k) (kidx j) with
      | false => simp only [veq1, hk, bIf_false] at h; cases h
      | true =>
        simp only [veq1, hk, bIf_true] at h
        rw [kidx_inj (Trie.beq_true hk)]
        cases x <;> cases y <;> first | (cases h; done) | (simp only [] at h; rw [Trie.beq_true h]; done) | (have h := Trie.beq_true h; subst h; rfl)
    | _ => cases h
  | bool x =>
    cases b with
    | bool y => cases x <;> cases y <;> first | rfl | (cases h; done) | (simp [veq1] at h)
    | _ => cases h
  | _ => exact veq_sound h

def oEq {α : Type} (e : α → α → Bool) (a b : Option α) : Bool := @Option.rec α (fun _ => Bool) (@Option.rec α (fun _ => Bool) true (fun _ => false) b) (fun x => @Option.rec α (fun _ => Bool) false (fun y => e x y) b) a
theorem oEq_sound {α : Type} {e : α → α → Bool} (he : ∀ x y, e x y = true → x = y) {a b : Option α} (h : oEq e a b = true) : a = b := by
  cases a <;> cases b <;> first | rfl | (cases h; done) | (rw [he _ _ h])
def tEq {α : Type} (e : α → α → Bool) (a : Trie α) : Trie α → Bool :=
  @Trie.rec α (fun _ => Trie α → Bool) (fun b => @Trie.rec α (fun _ => Bool) true (fun _ _ _ _ _ => false) b)
    (fun _ v _ il ir b => @Trie.rec α (fun _ => Bool) false (fun l' v' r' _ _ => bAnd (oEq e v v') (bAnd (il l') (ir r'))) b) a
theorem tEq_sound {α : Type} {e : α → α → Bool} (he : ∀ x y, e x y = true → x = y) : ∀ {a b : Trie α}, tEq e a b = true → a = b := by
  intro a
  induction a with
  | nil => intro b h; cases b with
    | nil => rfl
    | node => cases h
  | node l v r ihl ihr =>
    intro b h
    cases b with
    | nil => cases h
    | node l' v' r' =>
      have h : bAnd (oEq e v v') (bAnd (tEq e l l') (tEq e r r')) = true := h
      rw [bAnd_eq, bAnd_eq] at h
      simp only [Bool.and_eq_true] at h
      rw [oEq_sound he h.1, ihl h.2.1, ihr h.2.2]
def beqB (a b : Bool) : Bool := @Bool.rec (fun _ => Bool) (Bool.not b) b a
theorem beqB_sound {a b : Bool} (h : beqB a b = true) : a = b := by cases a <;> cases b <;> first | rfl | cases h
def rowEq (a b : Row) : Bool := bAnd (Nat.beq a.n b.n) (bAnd (Nat.beq a.elem b.elem) (bAnd (beqB a.exact b.exact) (tEq veq1 a.cells b.cells)))
theorem rowEq_sound {a b : Row} (h : rowEq a b = true) : a = b := by
  obtain ⟨c, n, e, x⟩ := a
  obtain ⟨c', n', e', x'⟩ := b
  simp only [rowEq, bAnd_eq, Bool.and_eq_true] at h
  rw [Trie.beq_true h.1, Trie.beq_true h.2.1, beqB_sound h.2.2.1, tEq_sound (fun x y => veq1_sound) h.2.2.2]
def entEq (a b : MapEntry) : Bool := bAnd (veq1 a.key b.key) (bAnd (veq1 a.val b.val) (Nat.beq a.born b.born))
theorem entEq_sound {a b : MapEntry} (h : entEq a b = true) : a = b := by
  obtain ⟨k, v, n⟩ := a
  obtain ⟨k', v', n'⟩ := b
  simp only [entEq, bAnd_eq, Bool.and_eq_true] at h
  rw [veq1_sound h.1, veq1_sound h.2.1, Trie.beq_true h.2.2]
def lEq {α : Type} (e : α → α → Bool) (a : List α) : List α → Bool :=
  @List.rec α (fun _ => List α → Bool) (fun b => @List.rec α (fun _ => Bool) true (fun _ _ _ => false) b)
    (fun x _ ih b => @List.rec α (fun _ => Bool) false (fun y m _ => bAnd (e x y) (ih m)) b) a
theorem lEq_sound {α : Type} {e : α → α → Bool} (he : ∀ x y, e x y = true → x = y) : ∀ {a b : List α}, lEq e a b = true → a = b := by
  intro a
  induction a with
  | nil => intro b h; cases b with
    | nil => rfl
    | cons => cases h
  | cons x a ih =>
    intro b h
    cases b with
    | nil => cases h
    | cons y b =>
      have h : bAnd (e x y) (lEq e a b) = true := h
      rw [bAnd_eq, Bool.and_eq_true] at h
      rw [he _ _ h.1, ih h.2]
def aEq (a b : AObj) : Bool :=
  match a with
  | .row r => match b with
    | .row r' => rowEq r r'
    | _ => false
  | .map es c => match b with
    | .map es' c' => bAnd (Nat.beq c c') (lEq entEq es es')
    | _ => false
  | _ => false
theorem aEq_sound {a b : AObj} (h : aEq a b = true) : a = b := by
  cases a with
  | row r => cases b with
    | row r' => rw [rowEq_sound h]
    | _ => cases h
  | map es c => cases b with
    | map es' c' =>
      have h : bAnd (Nat.beq c c') (lEq entEq es es') = true := h
      rw [bAnd_eq, Bool.and_eq_true] at h
      rw [Trie.beq_true h.1, lEq_sound (fun x y => entEq_sound) h.2]
    | _ => cases h
  | _ => cases h
/-- all blocks of the one are in the other -/
def sub (a : Trie AObj) : Trie AObj → Bool :=
  @Trie.rec AObj (fun _ => Trie AObj → Bool) (fun _ => true)
    (fun _ v _ il ir b => @Trie.rec AObj (fun _ => Bool) false (fun l' v' r' _ _ => bAnd (@Option.rec AObj (fun _ => Bool) true (fun x => oEq aEq (some x) v') v) (bAnd (il l') (ir r'))) b) a
theorem sub_sound : ∀ {a b : Trie AObj}, sub a b = true → ∀ n o, a.get n = some o → b.get n = some o := by
  intro a
  induction a with
  | nil => intro b _ n o h; rw [Trie.get_nil] at h; cases h
  | node l v r ihl ihr =>
    intro b h n o hg
    cases b with
    | nil => cases h
    | node l' v' r' =>
      have h : bAnd (@Option.rec AObj (fun _ => Bool) true (fun x => oEq aEq (some x) v') v) (bAnd (sub l l') (sub r r')) = true := h
      rw [bAnd_eq, bAnd_eq] at h
      simp only [Bool.and_eq_true] at h
      rw [Trie.get_node] at hg ⊢
      split
      · rename_i h0
        rw [if_pos h0] at hg
        subst hg
        exact (oEq_sound (fun x y => aEq_sound) h.1).symm
      · rename_i h0
        rw [if_neg h0] at hg
        split
        · rename_i h1
          rw [if_pos h1] at hg
          exact ihl h.2.1 _ _ hg
        · rename_i h1
          rw [if_neg h1] at hg
          exact ihr h.2.2 _ _ hg
def hSub (a b : AH) : Bool := bAnd (Nat.beq a.next b.next) (sub a.blks b.blks)

theorem HF.sub {E : Nat → Option Value} {P : Program} {G : Nat} {W0 : World} {σ : Emb} {bg bg' : Nat → Option AObj} {nx : Nat} {w : World} (hR : HF E P G W0 σ bg nx w) (h : ∀ n o, bg' n = some o → bg n = some o) : HF E P G W0 σ bg' nx w := by
  have is : ∀ n, (bg' n).isSome = true → (bg n).isSome = true := fun n hn => by
    obtain ⟨o, ho⟩ := Option.isSome_iff_exists.1 hn
    rw [h n o ho]; rfl
  exact ⟨hR.dom, fun b₁ b₂ c g1 g2 => hR.inj b₁ b₂ c (is _ g1) (is _ g2), fun b o c g => hR.blk b o c (h _ _ g), hR.glob, fun b o c g => hR.new b o c (h _ _ g), hR.old, hR.still⟩
theorem HR.sub {E : Nat → Option Value} {P : Program} {G : Nat} {W0 : World} {σ : Emb} {h h' : AH} {w : World} (hR : HR E P G W0 σ h w) (hs : hSub h' h = true) : HR E P G W0 σ h' w := by
  simp only [hSub, bAnd_eq, Bool.and_eq_true] at hs
  show HF E P G W0 σ h'.blks.get h'.next w
  rw [Trie.beq_true hs.1]
  exact HF.sub hR (sub_sound hs.2)

/-- the same values -/
def vlEq (a b : List Value) : Bool := lEq veq1 a b
theorem vlEq_sound {a b : List Value} (h : vlEq a b = true) : a = b := lEq_sound (fun x y => veq1_sound) h

/-- a call that was reckoned: the function, its arguments, what it needs of the memory, what it answers, what it leaves -/
structure Memo where
  f : FuncId
  args : List Value
  h : AH
  v : Value
  h' : AH
def Memo.hit (m : Memo) (args : List Value) (h : AH) : Bool := bAnd (Nat.beq m.h.next h.next) (bAnd (vlEq m.args args) (hSub m.h h))
def Memo.right (C : Ctx) (n : Nat) (m : Memo) : Bool :=
  match ev C (evDraw C) n (.call m.f m.args m.h) with
  | some (.ret v h') => bAnd (veq1 m.v v) (hSub m.h' h')
  | _ => false
def tryMemos (f : FuncId) (args : List Value) (h : AH) : List Memo → Option (Value × AH) :=
  @List.rec Memo (fun _ => Option (Value × AH)) none (fun m _ ih => bIf (bAnd (Nat.beq m.f f) (m.hit args h)) (some (m.v, m.h')) ih)
/-- a context in which some functions' calls were reckoned ahead -/
def Ctx.memo (C : Ctx) (isM : FuncId → Bool) (ms : List Memo) : Ctx :=
  { C with stub := fun f => bIf (isM f) (some fun args h => tryMemos f args h ms) (C.stub f) }

def MemoOK (E : Nat → Option Value) (W0 : World) (C : Ctx) (m : Memo) : Prop :=
  ∀ σ w args', HR E C.P C.G W0 σ m.h w → VL E σ m.args args' → (callFunc m.f args'.toArray).run C.P w = .ok (.enter m.f args'.toArray) w ∧ CallsIn Fence.wide 0 C.P m.f args'.toArray w (PostRet E W0 C σ m.h m.v m.h')
theorem Memo.ok {E : Nat → Option Value} {W0 : World} {C : Ctx} (ok : COK E W0 C) {n : Nat} {m : Memo} (h : m.right C n = true) : MemoOK E W0 C m := by
  unfold Memo.right at h
  split at h
  · rename_i v h' hev
    have k := evd_sound ok n _ _ hev
    simp only [bAnd_eq, Bool.and_eq_true] at h
    obtain ⟨e1, e2⟩ := h
    have e1 := veq1_sound e1
    subst e1
    have hn : m.h'.next = h'.next := by
      simp only [hSub, bAnd_eq, Bool.and_eq_true] at e2
      exact Trie.beq_true e2.1
    intro σ w args' hR hv
    obtain ⟨hb, hc⟩ := k σ w args' hR hv
    refine ⟨run_callFunc ok hb _ w, hc.mono fun e w' p => ?_⟩
    obtain ⟨σ', v', rfl, hx, hle, hvv, hR'⟩ := p
    exact ⟨σ', v', rfl, hx, by rw [hn]; exact hle, hvv, HR.sub hR' e2⟩
  · cases h

theorem tryMemos_some {f : FuncId} {args : List Value} {h : AH} : ∀ {ms : List Memo} {v : Value} {h' : AH}, tryMemos f args h ms = some (v, h') → ∃ m ∈ ms, m.f = f ∧ m.args = args ∧ hSub m.h h = true ∧ m.v = v ∧ m.h' = h' := by
  intro ms
  induction ms with
  | nil => intro v h' e; cases e
  | cons m ms ih =>
    intro v h' e
    have e : bIf (bAnd (Nat.beq m.f f) (m.hit args h)) (some (m.v, m.h')) (tryMemos f args h ms) = some (v, h') := e
    cases hb : bAnd (Nat.beq m.f f) (m.hit args h) with
    | false =>
      rw [hb] at e
      obtain ⟨m', hm, k⟩ := ih e
      exact ⟨m', List.mem_cons_of_mem _ hm, k⟩
    | true =>
      rw [hb] at e
      have e : some (m.v, m.h') = some (v, h') := e
      injection e with e; injection e with e1 e2
      simp only [Memo.hit, bAnd_eq, Bool.and_eq_true] at hb
      exact ⟨m, List.mem_cons_self, Trie.beq_true hb.1, vlEq_sound hb.2.2.1, hb.2.2.2, e1, e2⟩

theorem COK.memo {E : Nat → Option Value} {W0 : World} {C : Ctx} (ok : COK E W0 C) {isM : FuncId → Bool} {ms : List Memo} (hm : ∀ m ∈ ms, MemoOK E W0 C m) : COK E W0 (C.memo isM ms) := by
  refine ⟨ok.fns, ok.names, ok.meth, fun g s args h v h' hs hv σ w args' hR hvl => ?_⟩
  unfold Ctx.memo at hs
  simp only at hs
  cases hb : isM g with
  | false =>
    rw [hb] at hs
    exact ok.stub g s args h v h' hs hv σ w args' hR hvl
  | true =>
    rw [hb] at hs
    injection hs with hs; subst hs
    obtain ⟨m, hmem, rfl, rfl, h3, rfl, rfl⟩ := tryMemos_some hv
    obtain ⟨k1, k2⟩ := hm m hmem σ w args' (HR.sub hR h3) hvl
    have hn : m.h.next = h.next := by
      simp only [hSub, bAnd_eq, Bool.and_eq_true] at h3
      exact Trie.beq_true h3.1
    refine .inr ⟨k1, k2.mono fun e w' p => ?_⟩
    obtain ⟨σ', v', e1, hx, hle, hvv, hR'⟩ := p
    exact ⟨σ', v', e1, by rw [← hn]; exact hx, by rw [← hn]; exact hle, hvv, hR'⟩

end
end Go.Ev

/- Ev: what stands for the library's IndexByte and strings.Join. -/
namespace Go.Ev
noncomputable section
set_option linter.unusedVariables false
set_option linter.unusedSimpArgs false
variable {E : Nat → Option Value} {W0 : World} {C : Ctx}

/-- the memory may grow -/
theorem HF.grow {P : Program} {G : Nat} {σ : Emb} {bg : Nat → Option AObj} {nx : Nat} {w w' : World} (hR : HF E P G W0 σ bg nx w) (hs : w.heap.size ≤ w'.heap.size) (hb : ∀ k, k < w.heap.size → w'.heap[k]? = w.heap[k]?) (q : Quiet w w') : HF E P G W0 σ bg nx w' :=
  ⟨fun b c e => ⟨(hR.dom b c e).1, Nat.lt_of_lt_of_le (hR.dom b c e).2 hs⟩, hR.inj, fun b o c g e => by rw [hb c (hR.dom b c e).2]; exact hR.blk b o c g e, hR.glob, hR.new,
    ⟨Nat.le_trans hR.old.1 hs, fun c hc => by rw [hb c (Nat.lt_of_lt_of_le hc hR.old.1)]; exact hR.old.2 c hc⟩, q.1.trans hR.still.1, q.2.trans hR.still.2⟩

/-! ### IndexByte -/
def idxGo (c : UInt8) : List UInt8 → Nat → Int
  | [], _ => -1
  | b :: l, i => match Nat.beq b.toNat c.toNat with
    | true => Int.ofNat i
    | false => idxGo c l (i + 1)
theorem idxGo_eq (c : UInt8) : ∀ (l : List UInt8) (i : Nat), (Lib.indexByte l c = -1 ∧ idxGo c l i = -1) ∨ (0 ≤ Lib.indexByte l c ∧ idxGo c l i = Lib.indexByte l c + i) := by
  intro l
  induction l with
  | nil => intro i; exact .inl ⟨rfl, rfl⟩
  | cons b l ih =>
    intro i
    cases hb : Nat.beq b.toNat c.toNat with
    | true =>
      have : b = c := UInt8.toNat_inj.1 (Trie.beq_true hb)
      subst this
      refine .inr ⟨by simp [Lib.indexByte], ?_⟩
      simp [Lib.indexByte, idxGo]
    | false =>
      have hne : (b == c) = false := by
        cases h : b == c with
        | false => rfl
        | true => rw [beq_iff_eq] at h; subst h; exact absurd rfl (Trie.beq_false hb)
      have e1 : Lib.indexByte (b :: l) c = if Lib.indexByte l c == -1 then -1 else Lib.indexByte l c + 1 := by
        simp only [Lib.indexByte, hne, Bool.false_eq_true, if_false]
      have e2 : idxGo c (b :: l) i = idxGo c l (i + 1) := by simp only [idxGo, hb]
      rw [e1, e2]
      rcases ih (i + 1) with ⟨h1, h2⟩ | ⟨h1, h2⟩
      · exact .inl ⟨by simp [h1], h2⟩
      · have h3 : (Lib.indexByte l c == -1) = false := by simp; omega
        refine .inr ⟨by simp only [h3, Bool.false_eq_true, if_false]; omega, ?_⟩
        simp only [h3, Bool.false_eq_true, if_false]
        rw [h2]; push_cast; omega
theorem idxGo_zero (c : UInt8) (l : List UInt8) : idxGo c l 0 = Lib.indexByte l c := by
  rcases idxGo_eq c l 0 with ⟨h1, h2⟩ | ⟨h1, h2⟩
  · rw [h1, h2]
  · rw [h2]; simp
def idxStub (P : Program) (args : List Value) (h : AH) : Option (Value × AH) :=
  match args with
  | [.string s, .int .u8 c] => some (.int .i64 (idxGo (UInt8.ofNat c.toNat) s.data.toList 0), h)
  | [.slice (some ⟨b, o, none⟩) n _, .int .u8 c] => match getRow h b with
    | none => none
    | some r => match reads P r o n with
      | none => none
      | some l => match bytesOf l with
        | none => none
        | some bs => some (.int .i64 (idxGo (UInt8.ofNat c.toNat) bs 0), h)
  | _ => none
def IsIdx (P : Program) (g : FuncId) : Prop := ∃ fn, P.funcs[g]? = some fn ∧ (fn.name == "runtime.NumGoroutine") = false ∧ fn.body.isNone = true ∧ Extern.findNext fn = none ∧ Extern.find fn = some Extern.BytealgIndexByte.indexByte
theorem idx_did {g : FuncId} (hg : IsIdx C.P g) {args : List Value} {h h' : AH} {v : Value} (e : idxStub C.P args h = some (v, h')) {σ : Emb} {w : World} {args' : List Value} (hR : HR E C.P C.G W0 σ h w) (hv : VL E σ args args') : CallDid E W0 C σ h w g args' v h' := by
  obtain ⟨fn, h1, h2, h3, h4, h5⟩ := hg
  have hrun := fun a w => run_callFunc_indexByte h1 h2 h3 h4 h5 a w
  unfold idxStub at e
  split at e
  · rename_i s c
    injection e with e; injection e with e1 e2; subst e1 e2
    obtain ⟨v0, r0, rfl, hv0, hv⟩ := hv.uncons
    obtain ⟨v1, r1, rfl, hv1, hv⟩ := hv.uncons
    obtain rfl := hv.of_nil
    obtain rfl := hv0.string_inv
    obtain rfl := hv1.int_inv
    refine .inl ⟨σ, _, w, ?_, Ext.refl _ _, Nat.le_refl _, VR.int _ _, hR⟩
    rw [hrun]
    show ((Extern.BytealgIndexByte.indexByte #[.string s, .int .u8 c]).run C.P w).andThen _ = _
    rw [Lib.run_indexByteString]
    simp only [Result.andThen_ok, idxGo_zero]
    try rfl
  · rename_i b o n cp c
    split at e
    · cases e
    · rename_i r hr
      split at e
      · cases e
      · rename_i l hl
        split at e
        · cases e
        · rename_i bs hbs
          injection e with e; injection e with e1 e2; subst e1 e2
          obtain ⟨v0, r0, rfl, hv0, hv⟩ := hv.uncons
          obtain ⟨v1, r1, rfl, hv1, hv⟩ := hv.uncons
          obtain rfl := hv.of_nil
          obtain rfl := hv1.int_inv
          cases hv0 with
          | lit q => simp [lit] at q
          | slice hs hc =>
            rename_i b' c'
            obtain ⟨l', hl1, hl2⟩ := reads_sound hR hr hs hl
            obtain ⟨ns, rfl, rfl⟩ := bytesOf_sound hbs hl1
            have hlen : ns.length = n := by
              have h1 := hl1.1
              rw [reads_length hl] at h1
              simpa using h1.symm
            refine .inl ⟨σ, _, w, ?_, Ext.refl _ _, Nat.le_refl _, VR.int _ _, hR⟩
            rw [hrun]
            show ((Extern.BytealgIndexByte.indexByte #[.slice (some ⟨b', o, none⟩) n c', .int .u8 c]).run C.P w).andThen _ = _
            rw [Lib.run_indexByteSlice w b' o n c' ns hlen (fun i hi => by
              have hi' : i < ns.length := by omega
              rw [hl2 i (.int .u8 ns[i]) (by simp [hi']), List.getD_eq_getElem?_getD, List.getElem?_eq_getElem hi']
              rfl) c]
            simp only [Result.andThen_ok, idxGo_zero]
            try rfl
  · cases e

/-! ### strings.Join -/
def joinBytes (sep : List UInt8) : List Value → Option (List UInt8)
  | [] => some []
  | [.string s] => some s.data.toList
  | .string s :: r => match joinBytes sep r with
    | none => none
    | some l => some (s.data.toList ++ (sep ++ l))
  | _ => none
theorem joinBytes_spec {σ : Emb} {sep : List UInt8} : ∀ {l l' : List Value} {bs : List UInt8}, joinBytes sep l = some bs → VL E σ l l' → ∃ xs : List ByteArray, l' = xs.map Value.string ∧ bs = Lib.join (xs.map (·.data.toList)) sep := by
  intro l
  induction l with
  | nil => intro l' bs e hv; simp only [joinBytes] at e; injection e with e; subst e; obtain rfl := hv.of_nil; exact ⟨[], rfl, rfl⟩
  | cons v l ih =>
    intro l' bs e hv
    obtain ⟨v0, r0, rfl, hv0, hvr⟩ := hv.uncons
    clear hv
    cases v with
    | string s =>
      obtain rfl := hv0.string_inv
      cases l with
      | nil =>
        simp only [joinBytes] at e
        injection e with e; subst e
        obtain rfl := hvr.of_nil
        exact ⟨[s], rfl, (Lib.join_one _ _).symm⟩
      | cons y l =>
        rw [joinBytes] at e
        · split at e
          · cases e
          · rename_i bs' hb
            injection e with e; subst e
            obtain ⟨xs, rfl, rfl⟩ := ih hb hvr
            refine ⟨s :: xs, rfl, ?_⟩
            cases xs with
            | nil => have := hvr.1; simp at this
            | cons x xs =>
              simp only [List.map_cons]
              rw [Lib.join_cons, Lib.join_cons]
              simp [Lib.joinTail]
        · intro h; cases h
    | _ => simp [joinBytes] at e
def joinStub (P : Program) (args : List Value) (h : AH) : Option (Value × AH) :=
  match args with
  | [.slice (some ⟨b, o, none⟩) n cp, .string sep] => match Nat.ble n cp with
    | false => none
    | true => match Nat.ble n zmax with
      | false => none
      | true => match getRow h b with
        | none => none
        | some r => match reads P r o n with
          | none => none
          | some l => match joinBytes sep.data.toList l with
            | none => none
            | some bs => match Nat.ble bs.length zmax with
              | false => none
              | true => some (.string ⟨bs.toArray⟩, h)
  | _ => none
def IsJoin (P : Program) (g : FuncId) : Prop := (∃ fn, P.funcs[g]? = some fn ∧ (fn.name == "runtime.NumGoroutine") = false ∧ fn.body.isSome = true) ∧
  ∀ (bk o c : Nat) (xs : List ByteArray) (sep : ByteArray) (w : World), (∀ (j : Nat) x, xs[j]? = some x → w.cell? ⟨bk, o + j, none⟩ = some (.string x)) → bk < w.heap.size → xs.length ≤ 140737488355328 → xs.length ≤ c →
    (Lib.join (xs.map (·.data.toList)) sep.data.toList).length ≤ 140737488355328 →
    Calls P g #[.slice (some ⟨bk, o, none⟩) xs.length c, .string sep] w fun e w' => e = .returned (.string ⟨(Lib.join (xs.map (·.data.toList)) sep.data.toList).toArray⟩) ∧ RowKit.Below w.heap.size w w'
theorem join_did {g : FuncId} (hg : IsJoin C.P g) {args : List Value} {h h' : AH} {v : Value} (e : joinStub C.P args h = some (v, h')) {σ : Emb} {w : World} {args' : List Value} (hR : HR E C.P C.G W0 σ h w) (hv : VL E σ args args') : CallDid E W0 C σ h w g args' v h' := by
  obtain ⟨⟨fn, h1, h2, h3⟩, hj⟩ := hg
  unfold joinStub at e
  split at e
  · rename_i b o n cp sep
    split at e
    · cases e
    · rename_i hcp
      have hcp := ble_true hcp
      split at e
      · cases e
      · rename_i hz
        have hz := ble_true hz
        split at e
        · cases e
        · rename_i r hr
          split at e
          · cases e
          · rename_i l hl
            split at e
            · cases e
            · rename_i bs hbs
              split at e
              · cases e
              · rename_i hb
                have hb := ble_true hb
                injection e with e; injection e with e1 e2; subst e1 e2
                obtain ⟨v0, r0, rfl, hv0, hv⟩ := hv.uncons
                obtain ⟨v1, r1, rfl, hv1, hv⟩ := hv.uncons
                obtain rfl := hv.of_nil
                obtain rfl := hv1.string_inv
                cases hv0 with
                | lit q => simp [lit] at q
                | slice hs hc =>
                  rename_i b' c'
                  obtain ⟨l', hl1, hl2⟩ := reads_sound hR hr hs hl
                  obtain ⟨xs, rfl, rfl⟩ := joinBytes_spec hbs hl1
                  have hlen : xs.length = n := by
                    have h1 := hl1.1
                    rw [reads_length hl] at h1
                    simpa using h1.symm
                  have hzm : zmax = 1000000 := rfl
                  have hj' := hj b' o c' xs sep w (fun j x hx => hl2 j (.string x) (by simp [hx])) (hR.dom _ _ hs).2 (by omega) (by omega) (by omega)
                  rw [hlen] at hj'
                  refine .inr ⟨?_, callsIn_wide.2 (hj'.mono fun e w' p => ?_)⟩
                  · have hnone : fn.body.isNone = false := by cases hbb : fn.body <;> simp_all
                    simp only [callFunc, Sem.run_bind, run_program, Result.andThen_ok, h1, h2, hnone, Bool.false_eq_true, if_false, Sem.run_pure]
                  · obtain ⟨rfl, hbel⟩ := p
                    exact ⟨σ, _, rfl, Ext.refl _ _, Nat.le_refl _, VR.string _, hR.grow hbel.size hbel.block ⟨hbel.os, hbel.output⟩⟩
  · cases e

end
end Go.Ev

/- Ev: a call that answers true, out of what was reckoned. -/
namespace Go.Ev
noncomputable section
set_option linter.unusedVariables false
variable {E : Nat → Option Value} {W0 : World} {C : Ctx}

def isTrue : Option Res → Bool
  | some (.ret (.bool true) _) => true
  | _ => false
theorem closed_true (ok : COK E W0 C) {n : Nat} {f : FuncId} {args : List Value} {h0 : AH} (h : isTrue (ev C (evDraw C) n (.call f args h0)) = true) {σ : Emb} (hR : HR E C.P C.G W0 σ h0 W0) {args' : List Value} (hv : VL E σ args args') :
    Calls C.P f args'.toArray W0 fun e w' => e = .returned (.bool true) ∧ ∃ w'', w'.Alike w'' ∧ RowKit.Below W0.heap.size W0 w'' := by
  unfold isTrue at h
  split at h
  · rename_i h' hev
    obtain ⟨hb, hc⟩ := evd_sound ok n _ _ hev σ W0 args' hR hv
    refine callsIn_wide.1 (hc.mono fun e w' p => ?_)
    obtain ⟨σ', v', rfl, _, _, hvv, hR'⟩ := p
    obtain rfl := hvv.bool_inv
    exact ⟨rfl, { W0 with heap := w'.heap }, ⟨rfl, hR'.still.1, hR'.still.2⟩, ⟨rfl, rfl, rfl, hR'.old.1, hR'.old.2⟩⟩
  · cases h

/-- the names of the program's own variables -/
def σ0 (G : Nat) : Emb := ⟨fun b => if b < G then some b else none, fun _ => 0⟩
/-- the functions of a program, to be looked up fast -/
def fnsOf (P : Program) : Trie Func := match Trie.nil.puts D 0 P.funcs.toList with
  | some t => t
  | none => .nil
theorem fnsOf_ok {P : Program} {f : FuncId} {fn : Func} (h : (fnsOf P).get f = some fn) : P.funcs[f]? = some fn := by
  unfold fnsOf at h
  cases hp : Trie.nil.puts D 0 P.funcs.toList with
  | none => rw [hp] at h; cases h
  | some tr =>
    rw [hp] at h
    have h' : tr.get f = some fn := h
    rw [Trie.get_puts _ _ _ _ _ hp f] at h'
    split at h'
    · simpa using h'
    · rw [Trie.get_nil] at h'; cases h'
def namesOK (P : Program) : Bool := P.funcs.toList.all fun fn => fn.body.isNone || !(fn.name == "runtime.NumGoroutine")
theorem namesOK_ok {P : Program} (h : namesOK P = true) {f : FuncId} {fn : Func} (hf : P.funcs[f]? = some fn) (hb : fn.body.isSome = true) : (fn.name == "runtime.NumGoroutine") = false := by
  have := List.all_eq_true.1 h fn (by
    have := Array.mem_of_getElem? hf
    simpa using this)
  cases hbb : fn.body with
  | none => rw [hbb] at hb; cases hb
  | some c => rw [hbb] at this; simpa using this

end
end Go.Ev

/- Ev: a closed call (no arguments, answers true) stands for itself in any memory; a call whose answers are never looked at. -/
namespace Go.Ev
noncomputable section
set_option linter.unusedVariables false
set_option linter.unusedSimpArgs false
variable {E : Nat → Option Value} {W0 : World} {C : Ctx}

def litT (t : Trie Value) : Bool := @Trie.rec Value (fun _ => Bool) true (fun _ v _ il ir => bAnd (@Option.rec Value (fun _ => Bool) true (fun x => lit x) v) (bAnd il ir)) t
theorem litT_get : ∀ {t : Trie Value}, litT t = true → ∀ i v, t.get i = some v → lit v = true := by
  intro t
  induction t with
  | nil => intro _ i v h; rw [Trie.get_nil] at h; cases h
  | node l x r ihl ihr =>
    intro h i v hg
    have h : bAnd (@Option.rec Value (fun _ => Bool) true (fun x => lit x) x) (bAnd (litT l) (litT r)) = true := h
    rw [bAnd_eq, bAnd_eq] at h
    simp only [Bool.and_eq_true] at h
    rw [Trie.get_node] at hg
    split at hg
    · subst hg; exact h.1
    · split at hg
      · exact ihl h.2.1 _ _ hg
      · exact ihr h.2.2 _ _ hg
def litO (o : AObj) : Bool :=
  match o with
  | .row r => bAnd r.exact (litT r.cells)
  | _ => false
def litB (t : Trie AObj) : Bool := @Trie.rec AObj (fun _ => Bool) true (fun _ v _ il ir => bAnd (@Option.rec AObj (fun _ => Bool) true (fun x => litO x) v) (bAnd il ir)) t
theorem litB_get : ∀ {t : Trie AObj}, litB t = true → ∀ i o, t.get i = some o → litO o = true := by
  intro t
  induction t with
  | nil => intro _ i v h; rw [Trie.get_nil] at h; cases h
  | node l x r ihl ihr =>
    intro h i v hg
    have h : bAnd (@Option.rec AObj (fun _ => Bool) true (fun x => litO x) x) (bAnd (litB l) (litB r)) = true := h
    rw [bAnd_eq, bAnd_eq] at h
    simp only [Bool.and_eq_true] at h
    rw [Trie.get_node] at hg
    split at hg
    · subst hg; exact h.1
    · split at hg
      · exact ihl h.2.1 _ _ hg
      · exact ihr h.2.2 _ _ hg
theorem litO_or {P : Program} {σ σ' : Emb} {k : Nat} {o : AObj} {r : Obj} (h : litO o = true) (ho : OR E P σ k o r) : OR E P σ' 0 o r := by
  cases ho with
  | row hn hc hf hx =>
    rename_i rr c fz
    simp only [litO, bAnd_eq, Bool.and_eq_true] at h
    have hk := hx h.1
    subst hk
    refine .row (by simpa using hn) (fun i v hv => ?_) hf (fun _ => rfl)
    have hl : lit v = true := by
      unfold Row.get at hv
      split at hv
      · cases hv
      · split at hv
        · rename_i v' hv'
          injection hv with hv; subst hv
          exact litT_get h.2 _ _ hv'
        · obtain ⟨_, _, _, _, _, hh⟩ := zget_spec hv; exact hh
    obtain ⟨v', h1, h2⟩ := hc i v hv
    have : v' = v := by cases h2 <;> first | rfl | (simp [lit] at hl)
    subst this
    exact ⟨v', h1, .lit hl⟩
  | _ => simp [litO] at h

def closedStub (h0 : AH) (args : List Value) (h : AH) : Option (Value × AH) :=
  match args with
  | [] => bIf (sub h0.blks h.blks) (some (.bool true, h)) none
  | _ => none
/-- what the memory must be at the start of a closed call -/
structure Start (C : Ctx) (h0 : AH) : Prop where
  lits : litB h0.blks = true
  next : h0.next = C.G
  glob : ∀ b o, h0.blks.get b = some o → b < C.G
theorem start_hr {h0 h : AH} (hs : Start C h0) (hsub : sub h0.blks h.blks = true) {σ : Emb} {w : World} (hR : HR E C.P C.G W0 σ h w) : HR E C.P C.G w (σ0 C.G) h0 w := by
  have g : ∀ b c, σ0 C.G b = some c → c = b ∧ b < C.G := by
    intro b c e
    simp only [σ0] at e
    split at e
    · rename_i hb; injection e with e; exact ⟨e.symm, hb⟩
    · cases e
  refine ⟨fun b c e => ?_, fun b₁ b₂ c _ _ e1 e2 => ?_, fun b o c hb e => ?_, fun b hb => by simp [σ0, hb], fun b o c hb e hG => ?_, ⟨Nat.le_refl _, fun _ _ => rfl⟩, rfl, rfl⟩
  · obtain ⟨rfl, hb⟩ := g b c e
    exact ⟨by rw [hs.next]; exact hb, (hR.dom _ _ (hR.glob _ hb)).2⟩
  · obtain ⟨rfl, _⟩ := g _ _ e1
    exact (g _ _ e2).1
  · obtain ⟨rfl, hlt⟩ := g b c e
    obtain ⟨r, h1, h2⟩ := hR.blk _ o _ (sub_sound hsub _ _ hb) (hR.glob _ hlt)
    exact ⟨r, h1, litO_or (litB_get hs.lits _ _ hb) h2⟩
  · have := hs.glob b o hb
    omega
theorem closed_did (ok : ∀ E W0, COK E W0 C) {n : Nat} {f : FuncId} {h0 : AH} (hev : isTrue (ev C (evDraw C) n (.call f [] h0)) = true) (hs : Start C h0) {args : List Value} {h h' : AH} {v : Value} (e : closedStub h0 args h = some (v, h'))
    {σ : Emb} {w : World} {args' : List Value} (hR : HR E C.P C.G W0 σ h w) (hv : VL E σ args args') : CallDid E W0 C σ h w f args' v h' := by
  unfold closedStub at e
  split at e
  · cases hsub : sub h0.blks h.blks with
    | false => rw [hsub] at e; cases e
    | true =>
      rw [hsub, bIf_true] at e
      injection e with e; injection e with e1 e2; subst e1 e2
      obtain rfl := hv.of_nil
      unfold isTrue at hev
      split at hev
      · rename_i h1 hev1
        have hR0 := start_hr hs hsub hR
        obtain ⟨hb, hc⟩ := evd_sound (ok E w) n _ _ hev1 (σ0 C.G) w [] hR0 VL.nil
        refine .inr ⟨run_callFunc (ok E w) hb _ w, hc.mono fun e w' p => ?_⟩
        obtain ⟨σ', v', rfl, _, _, hvv, hR'⟩ := p
        obtain rfl := hvv.bool_inv
        exact ⟨σ, _, rfl, Ext.refl _ _, Nat.le_refl _, VR.bool _, hR.grow hR'.old.1 hR'.old.2 hR'.still⟩
      · cases hev
  · cases e

theorem CallDid.congr {C' : Ctx} (hP : C.P = C'.P) (hG : C.G = C'.G) {σ : Emb} {h h' : AH} {w : World} {g : FuncId} {args' : List Value} {v : Value} (k : CallDid E W0 C σ h w g args' v h') : CallDid E W0 C' σ h w g args' v h' := by
  unfold CallDid PostRet at *
  rw [← hP, ← hG]
  exact k

/-! ### a call of a text and of what is never looked at, its answers never looked at -/
def blindStub (args : List Value) (h : AH) : Option (Value × AH) :=
  match args with
  | [.string s, .chan (some 1)] => bIf (Nat.ble s.data.toList.length zmax) (some (.tuple #[.chan none, .chan none, .agg #[.chan none, .chan none], .chan none], h)) none
  | _ => none
def IsBlind (E : Nat → Option Value) (W0 : World) (P : Program) (g : FuncId) : Prop := (∃ fn, P.funcs[g]? = some fn ∧ (fn.name == "runtime.NumGoroutine") = false ∧ fn.body.isSome = true) ∧
  ∀ (v1 : Value) (s : ByteArray) (w : World), E 1 = some v1 → s.data.toList.length ≤ zmax → W0.heap.size ≤ w.heap.size → (∀ c, c < W0.heap.size → w.heap[c]? = W0.heap[c]?) →
    Calls P g #[.string s, v1] w fun e w' => (∃ a b c d x : Value, e = .returned (.tuple #[a, b, .agg #[c, d], x]) ∧ a.oneCell' = true ∧ b.oneCell' = true ∧ c.oneCell' = true ∧ d.oneCell' = true ∧ x.oneCell' = true) ∧ RowKit.Below w.heap.size w w'
theorem VR.arr {σ : Emb} : ∀ {l l' : List Value}, VL E σ l l' → ∀ (i : Nat) v v', l.toArray[i]? = some v → l'.toArray[i]? = some v' → VR E σ v v' := by
  intro l l' h i v v' h1 h2
  exact h.2 i v v' (by simpa using h1) (by simpa using h2)
theorem blind_did {g : FuncId} (hg : IsBlind E W0 C.P g) {args : List Value} {h h' : AH} {v : Value} (e : blindStub args h = some (v, h')) {σ : Emb} {w : World} {args' : List Value} (hR : HR E C.P C.G W0 σ h w) (hv : VL E σ args args') : CallDid E W0 C σ h w g args' v h' := by
  obtain ⟨⟨fn, h1, h2, h3⟩, hj⟩ := hg
  unfold blindStub at e
  split at e
  · rename_i s
    cases hb : Nat.ble s.data.toList.length zmax with
    | false => rw [hb] at e; cases e
    | true =>
      rw [hb, bIf_true] at e
      injection e with e; injection e with e1 e2; subst e1 e2
      obtain ⟨v0, r0, rfl, hv0, hv⟩ := hv.uncons
      obtain ⟨v1, r1, rfl, hv1, hv⟩ := hv.uncons
      obtain rfl := hv.of_nil
      obtain rfl := hv0.string_inv
      have hE : E 1 = some v1 := by cases hv1 with
        | raw hh _ => exact hh
        | lit q => simp [lit] at q
      refine .inr ⟨?_, callsIn_wide.2 ((hj v1 s w hE (ble_true hb) hR.old.1 hR.old.2).mono fun e w' p => ?_)⟩
      · have hnone : fn.body.isNone = false := by cases hbb : fn.body <;> simp_all
        simp only [callFunc, Sem.run_bind, run_program, Result.andThen_ok, h1, h2, hnone, Bool.false_eq_true, if_false, Sem.run_pure]
      · obtain ⟨⟨a, b, c, d, x, rfl, ha, hb, hc, hd, hx⟩, hbel⟩ := p
        refine ⟨σ, _, rfl, Ext.refl _ _, Nat.le_refl _, ?_, hR.grow hbel.size hbel.block ⟨hbel.os, hbel.output⟩⟩
        exact .tuple rfl (VR.arr (VL.cons (.any ha) (VL.cons (.any hb) (VL.cons (.agg rfl (VR.arr (VL.cons (.any hc) (VL.cons (.any hd) VL.nil)))) (VL.cons (.any hx) VL.nil)))))
  · cases e

end
end Go.Ev
