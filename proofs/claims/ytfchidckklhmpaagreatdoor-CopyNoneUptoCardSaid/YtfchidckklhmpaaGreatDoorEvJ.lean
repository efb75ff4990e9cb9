/- The evaluator, going on. -/
import Derived.Test.YtfchidckklhmpaaGreatDoorEvA
import Derived.ScopeJumps
/- Ev: the evaluator: code, calls, deferred calls, recover, ranges over functions. -/
namespace Go.Ev
noncomputable section
set_option linter.unusedVariables false
set_option linter.unusedSimpArgs false

inductive Ex where
  | normal
  | exit (id : Nat)
  | goto (l : Nat)
  | ret
  | panic (v : Value)
inductive ADef where
  | call (g : FuncId) (args : List Value)
  | mark (b : Nat)
inductive Task where
  | code (rd : Option Nat) (nt : Nat) (c : Code) (tm : Trie Value) (df : List ADef) (h : AH)
  | scope (rd : Option Nat) (nt : Nat) (body c : Code) (tm : Trie Value) (df : List ADef) (h : AH)
  | call (f : FuncId) (args : List Value) (h : AH)
  | round (l : Nat) (args : List Value) (h : AH)
  | iter (rd : Option Nat) (nt : Nat) (c : Code) (tm : Trie Value) (df : List ADef) (h : AH)
inductive Res where
  | code (ex : Ex) (tm : Trie Value) (df : List ADef) (h : AH)
  | ret (v : Value) (h : AH)
  | pan (v : Value) (h : AH)
structure Ctx where
  P : Program
  G : Nat
  fns : Trie Func
  meth : TypeId → String → Option FuncId
  stub : FuncId → Option (List Value → AH → Option (Value × AH))

def tval (tm : Trie Value) (t : Nat) : Option Value :=
  match tm.get t with
  | some v => some v
  | none => some undef
def tput (nt : Nat) (tm : Trie Value) (d : Option Tmp) (v : Value) : Option (Trie Value) :=
  match d with
  | none => some tm
  | some t => match Nat.ble (t + 1) nt with
    | true => tm.put D t (some v)
    | false => none

inductive CT where
  | fn (g : FuncId) (args : List Value)
  | yield (l : Nat) (args : List Value)
def target (C : Ctx) (ev : Operand → Option Value) (c : Call) : Option CT :=
  match evls ev c.args.toList with
  | none => none
  | some args => match c.callee with
    | .builtin _ => none
    | .value f => match ev f with
      | some (.func (.func g) first captured) => some (.fn g (first.toList ++ args ++ captured.toList))
      | some (.func (.yield l) _ _) => some (.yield l args)
      | _ => none
    | .invoke r name => match ev r with
      | some (.iface t v) => match C.meth t name with
        | some g => some (.fn g (v :: args))
        | none => none
      | _ => none
def isBuiltinCall (c : Call) : Bool :=
  match c.callee with
  | .builtin _ => true
  | _ => false

inductive OpRes where
  | val (v : Value) (df : List ADef) (h : AH)
  | pan (v : Value) (h : AH)

def evCall (C : Ctx) (rec_ : Task → Option Res) (ct : Option CT) (df : List ADef) (h : AH) : Option OpRes :=
  match ct with
  | none => none
  | some (.fn g args) => match C.stub g with
    | some s => match s args h with
      | some (v, h') => some (.val v df h')
      | none => none
    | none => match rec_ (.call g args h) with
      | some (.ret v h') => some (.val v df h')
      | some (.pan v h') => some (.pan v h')
      | _ => none
  | some (.yield l args) => match rec_ (.round l args h) with
    | some (.ret v h') => some (.val v df h')
    | _ => none
def evDefer (C : Ctx) (rd : Option Nat) (ev : Operand → Option Value) (c : Call) (df : List ADef) (h : AH) : Option OpRes :=
  match rd with
  | some _ => none
  | none => match evls ev c.args.toList with
    | none => none
    | some args => match c.callee with
      | .value f => match ev f with
        | some (.func (.func g) first captured) => some (.val undef (.call g (first.toList ++ args ++ captured.toList) :: df) h)
        | _ => none
      | _ => none
/-! ### the commonest operations, told apart once and for all -/
inductive K where
  | mv (x : Operand)
  | ld (t : TypeId) (a : Operand)
  | bin (op : BinOp) (t : TypeId) (x y : Operand)
  | fa (s : TypeId) (x : Operand) (f : Nat)
  | ia (t : TypeId) (x i : Operand)
  | other
def dig : Op → K
  | .move x => .mv x
  | .assign x => .mv x
  | .load t a => .ld t a
  | .binOp op t x y _ => .bin op t x y
  | .fieldAddr s x f => .fa s x f
  | .indexAddr t x i => .ia t x i
  | _ => .other
def kidx : IntKind → Nat := fun k => @IntKind.rec (fun _ => Nat) 0 1 2 3 4 5 6 7 k
def wrapI (k : IntKind) (n : Int) : Int :=
  @Bool.rec (fun _ => Int) (k.wrap n) (@Int.rec (fun _ => Int) (fun m => @Bool.rec (fun _ => Int) (Int.ofNat m) (k.wrap n) (Nat.ble 9223372036854775808 m)) (fun m => @Bool.rec (fun _ => Int) (Int.negSucc m) (k.wrap n) (Nat.ble 9223372036854775808 m)) n) (Nat.beq (kidx k) 3)
theorem kidx_inj {a b : IntKind} (h : kidx a = kidx b) : a = b := by cases a <;> cases b <;> first | rfl | (simp [kidx] at h)
theorem wrapI_eq (k : IntKind) (n : Int) : wrapI k n = k.wrap n := by
  cases h : Nat.beq (kidx k) 3
  · unfold wrapI; rw [h]
  · have : k = .i64 := kidx_inj (Trie.beq_true h)
    subst this
    cases n with
    | ofNat m =>
      show @Bool.rec (fun _ => Int) (Int.ofNat m) (IntKind.i64.wrap (Int.ofNat m)) (Nat.ble 9223372036854775808 m) = IntKind.i64.wrap (Int.ofNat m)
      generalize hb : Nat.ble 9223372036854775808 m = b
      cases b with
      | true => rfl
      | false =>
        have hb := ble_false hb
        exact (wrap_i64 (by simp only [Int.ofNat_eq_natCast]; omega) (by simp only [Int.ofNat_eq_natCast]; omega)).symm
    | negSucc m =>
      show @Bool.rec (fun _ => Int) (Int.negSucc m) (IntKind.i64.wrap (Int.negSucc m)) (Nat.ble 9223372036854775808 m) = IntKind.i64.wrap (Int.negSucc m)
      generalize hb : Nat.ble 9223372036854775808 m = b
      cases b with
      | true => rfl
      | false =>
        have hb := ble_false hb
        have h1 : (-9223372036854775808 : Int) ≤ Int.negSucc m := by omega
        have h2 : Int.negSucc m < 9223372036854775808 := by omega
        exact (wrap_i64 h1 h2).symm
/-- two whole numbers; both not below zero at once -/
def natI {α : Type} (a b : Int) (k : Nat → Nat → α) (d : α) : α :=
  @Int.rec (fun _ => α) (fun m => @Int.rec (fun _ => α) (fun n => k m n) (fun _ => d) b) (fun _ => d) a
theorem natI_eq {α : Type} {a b : Int} {k : Nat → Nat → α} {d r : α} (h1 : ∀ m n : Nat, a = Int.ofNat m → b = Int.ofNat n → k m n = r) (h2 : d = r) : natI a b k d = r := by
  cases a with
  | ofNat m => cases b with
    | ofNat n => exact h1 m n rfl rfl
    | negSucc n => exact h2
  | negSucc m => exact h2
def nBool (b : Bool) : Option Value := some (.bool b)
def binI (op : BinOp) (k : IntKind) (a b : Int) : Option Value :=
  match op with
  | .add => some (.int k (wrapI k (natI a b (fun m n => Int.ofNat (Nat.add m n)) (Int.add a b))))
  | .sub => some (.int k (wrapI k (Int.sub a b)))
  | .mul => some (.int k (wrapI k (natI a b (fun m n => Int.ofNat (Nat.mul m n)) (Int.mul a b))))
  | .eql => nBool (natI a b Nat.beq (a == b))
  | .neq => nBool (natI a b (fun m n => Bool.not (Nat.beq m n)) (a != b))
  | .lss => nBool (natI a b (fun m n => Nat.ble (Nat.succ m) n) (decide (a < b)))
  | .leq => nBool (natI a b Nat.ble (decide (a ≤ b)))
  | .gtr => nBool (natI a b (fun m n => Nat.ble (Nat.succ n) m) (decide (b < a)))
  | .geq => nBool (natI a b (fun m n => Nat.ble n m) (decide (b ≤ a)))
  | .shl => none
  | .shr => none
  | op => aint op k a b
theorem bool_of_iff {a b : Bool} (h : a = true ↔ b = true) : a = b := Bool.eq_iff_iff.2 h
theorem binI_eq {op : BinOp} {k : IntKind} {a b : Int} {v : Value} (h : binI op k a b = some v) : isShift op = false ∧ aint op k a b = some v := by
  have hadd : natI a b (fun m n => Int.ofNat (Nat.add m n)) (Int.add a b) = a + b := natI_eq (fun m n e1 e2 => by subst e1 e2; rfl) rfl
  have hmul : natI a b (fun m n => Int.ofNat (Nat.mul m n)) (Int.mul a b) = a * b := natI_eq (fun m n e1 e2 => by subst e1 e2; rfl) rfl
  have heq : natI a b Nat.beq (a == b) = (a == b) := natI_eq (fun m n e1 e2 => by
    subst e1 e2; apply bool_of_iff; simp only [beq_iff_eq, Int.ofNat.injEq, Int.ofNat_eq_natCast]; constructor
    · intro h; have := Nat.eq_of_beq_eq_true h; omega
    · intro h; have : m = n := by omega
      subst this; simp) rfl
  have hne : natI a b (fun m n => Bool.not (Nat.beq m n)) (a != b) = (a != b) := natI_eq (fun m n e1 e2 => by
    subst e1 e2; show (!(Nat.beq m n)) = !(Int.ofNat m == Int.ofNat n); congr 1) rfl
  have ble_iff : ∀ m n : Nat, Nat.ble m n = true ↔ m ≤ n := fun m n => ⟨ble_true, Nat.ble_eq_true_of_le⟩
  have hlt : natI a b (fun m n => Nat.ble (Nat.succ m) n) (decide (a < b)) = decide (a < b) := natI_eq (fun m n e1 e2 => by subst e1 e2; apply bool_of_iff; rw [ble_iff]; simp; try omega) rfl
  have hle : natI a b Nat.ble (decide (a ≤ b)) = decide (a ≤ b) := natI_eq (fun m n e1 e2 => by subst e1 e2; apply bool_of_iff; rw [ble_iff]; simp) rfl
  have hgt : natI a b (fun m n => Nat.ble (Nat.succ n) m) (decide (b < a)) = decide (b < a) := natI_eq (fun m n e1 e2 => by subst e1 e2; apply bool_of_iff; rw [ble_iff]; simp; try omega) rfl
  have hge : natI a b (fun m n => Nat.ble n m) (decide (b ≤ a)) = decide (b ≤ a) := natI_eq (fun m n e1 e2 => by subst e1 e2; apply bool_of_iff; rw [ble_iff]; simp) rfl
  unfold binI nBool at h
  rw [hadd, hmul, heq, hne, hlt, hle, hgt, hge] at h
  cases op <;> simp only [] at h <;> first | (cases h; done) | (refine ⟨rfl, ?_⟩; first | exact h | (rw [← h]; first | rfl | (simp only [aint, wrapI_eq, awrap_eq]; done) | (simp only [aint, wrapI_eq, awrap_eq]; rfl)))
def asI (v : Value) (k : IntKind → Int → Option Value) (d : Option Value) : Option Value :=
  match v with
  | .int kk n => k kk n
  | _ => d
def fastBin (P : Program) (op : BinOp) (t : TypeId) (x y : Operand) (a b : Value) : Option Value :=
  asI a (fun k n => asI b (fun k' m => @Bool.rec (fun _ => Option Value) (abin P op t (isCon x || isCon y) a b) (@Option.rec Value (fun _ => Option Value) (abin P op t (isCon x || isCon y) a b) (fun v => some v) (binI op k n m)) (Nat.beq (kidx k) (kidx k'))) none) (abin P op t (isCon x || isCon y) a b)
theorem fastBin_eq {P : Program} {op : BinOp} {t : TypeId} {x y : Operand} {a b v : Value} (h : fastBin P op t x y a b = some v) : abin P op t (isCon x || isCon y) a b = some v := by
  unfold fastBin asI at h
  split at h
  · rename_i k n
    dsimp only at h
    split at h
    · rename_i k' m
      cases hb : Nat.beq (kidx k) (kidx k') with
      | false => rw [hb] at h; exact h
      | true =>
        rw [hb] at h
        obtain rfl := kidx_inj (Trie.beq_true hb)
        cases hi : binI op k n m with
        | none => rw [hi] at h; exact h
        | some u =>
          rw [hi] at h
          injection h with h; subst h
          obtain ⟨h1, h2⟩ := binI_eq hi
          have hk : kindEq k k = true := by cases k <;> rfl
          simp only [abin, h1, hk]
          exact h2
    · cases h
  · exact h
/-- where a field lies -/
def faOff (P : Program) (s : TypeId) (f : Nat) : Option Nat :=
  match pund P s with
  | some (.struct fs) => match fs.toList[f]? with
    | some fd => match size? P fd.type with
      | some (_ + 1) => some fd.offset
      | _ => none
    | none => none
  | _ => none
def ptrAdd (x : Value) (n : Nat) : Option Value :=
  match x with
  | .pointer (some ⟨b, o, none⟩) => some (.pointer (some ⟨b, o + n, none⟩))
  | _ => none
def fastFA (P : Program) (s : TypeId) (x : Value) (f : Nat) : Option Value :=
  @Option.rec Nat (fun _ => Option Value) none (fun n => ptrAdd x n) (faOff P s f)
theorem fastFA_eq {P : Program} {s : TypeId} {x v : Value} {f : Nat} (h : fastFA P s x f = some v) : afieldAddr P s x f = some v := by
  unfold fastFA at h
  cases hf : faOff P s f with
  | none => rw [hf] at h; cases h
  | some n =>
    rw [hf] at h
    simp only [ptrAdd] at h
    split at h
    · rename_i b o
      injection h with h; subst h
      unfold faOff at hf
      unfold afieldAddr
      split at hf
      · rename_i fs hu
        simp only [hu]
        split at hf
        · rename_i fd hfd
          simp only [hfd]
          split at hf
          · rename_i n' hn
            injection hf with hf; subst hf
            simp only [hn]
          · cases hf
        · cases hf
      · cases hf
    · cases h
/-- what is indexed: an array of so many, or a slice; and an element's size -/
def iaInfo (P : Program) (t : TypeId) : Option (Option Nat × Nat) :=
  match pund P t with
  | some (.array n e) => match size? P e with
    | some sz => some (some n, sz)
    | none => none
  | some (.slice e) => match size? P e with
    | some sz => some (none, sz)
    | none => none
  | _ => none
def iaP (x : Value) (n sz m : Nat) : Option Value :=
  match x with
  | .pointer (some ⟨b, o, none⟩) => @Bool.rec (fun _ => Option Value) none (some (.pointer (some ⟨b, o + m * sz, none⟩))) (Nat.ble (m + 1) n)
  | _ => none
def iaS (x : Value) (sz m : Nat) : Option Value :=
  match x with
  | .slice (some ⟨b, o, none⟩) n _ => @Bool.rec (fun _ => Option Value) none (some (.pointer (some ⟨b, o + m * sz, none⟩))) (Nat.ble (m + 1) n)
  | _ => none
def asN (v : Value) (k : Nat → Option Value) : Option Value :=
  match v with
  | .int _ n => @Int.rec (fun _ => Option Value) k (fun _ => none) n
  | _ => none
def fastIA (P : Program) (t : TypeId) (x i : Value) : Option Value :=
  @Option.rec (Option Nat × Nat) (fun _ => Option Value) none (fun p => @Prod.rec (Option Nat) Nat (fun _ => Option Value) (fun a sz => asN i fun m => @Option.rec Nat (fun _ => Option Value) (iaS x sz m) (fun n => iaP x n sz m) a) p) (iaInfo P t)
theorem fastIA_eq {P : Program} {t : TypeId} {x i v : Value} (h : fastIA P t x i = some v) : aindexAddr P t x i = some v := by
  unfold fastIA at h
  cases hi : iaInfo P t with
  | none => rw [hi] at h; cases h
  | some p =>
    obtain ⟨a, sz⟩ := p
    rw [hi] at h
    simp only [asN] at h
    split at h
    · rename_i k n
      cases n with
      | negSucc m => cases h
      | ofNat m =>
        simp only [] at h
        unfold iaInfo at hi
        unfold aindexAddr
        split at hi
        · rename_i n e hu
          split at hi
          · rename_i sz' hsz
            injection hi with hi; injection hi with e1 e2; subst e1 e2
            simp only [iaP] at h
            split at h
            · rename_i b o
              simp only [hu, hsz]
              cases hb : Nat.ble (m + 1) n with
              | false => rw [hb] at h; cases h
              | true => rw [hb] at h; exact h
            · cases h
          · cases hi
        · rename_i e hu
          split at hi
          · rename_i sz' hsz
            injection hi with hi; injection hi with e1 e2; subst e1 e2
            simp only [iaS] at h
            split at h
            · rename_i b o n c
              simp only [hu, hsz]
              cases hb : Nat.ble (m + 1) n with
              | false => rw [hb] at h; cases h
              | true => rw [hb] at h; exact h
            · cases h
          · cases hi
        · cases hi
    · cases h
def retV (df : List ADef) (h : AH) (v : Option Value) : Option OpRes := @Option.rec Value (fun _ => Option OpRes) none (fun v => some (.val v df h)) v
def withV (v : Option Value) (k : Value → Option OpRes) : Option OpRes := @Option.rec Value (fun _ => Option OpRes) none k v
def evSlow (C : Ctx) (rec_ : Task → Option Res) (rd : Option Nat) (op : Op) (ev : Operand → Option Value) (df : List ADef) (h : AH) : Option OpRes :=
  match op with
  | .call c => match isBuiltinCall c with
    | true => match aop C.P C.G h ev (.call c) with
      | some (v, h') => some (.val v df h')
      | none => none
    | false => evCall C rec_ (target C ev c) df h
  | .defer c => evDefer C rd ev c df h
  | .panic x => match ev x with
    | some (.iface t v) => some (.pan (.iface t v) h)
    | _ => none
  | op => match aop C.P C.G h ev op with
    | some (v, h') => some (.val v df h')
    | none => none
def evOp (C : Ctx) (rec_ : Task → Option Res) (rd : Option Nat) (op : Op) (ev : Operand → Option Value) (df : List ADef) (h : AH) : Option OpRes :=
  @K.rec (fun _ => Option OpRes)
    (fun x => retV df h (ev x))
    (fun t a => withV (ev a) fun x => retV df h (aload C.P h t x))
    (fun op t x y => withV (ev x) fun a => withV (ev y) fun b => retV df h (fastBin C.P op t x y a b))
    (fun s x f => withV (ev x) fun a => retV df h (fastFA C.P s a f))
    (fun t x i => withV (ev x) fun a => withV (ev i) fun b => retV df h (fastIA C.P t a b))
    (evSlow C rec_ rd op ev df h)
    (dig op)
/-- is an operation wanted, by its guard? -/
def want (ops : Array Oper) (tv : Nat → Option Value) (o : Oper) : Option Bool :=
  match o.guard with
  | none => some true
  | some (j, b) => match (ops[j]?).bind (·.dst) with
    | none => some false
    | some t => match tv t with
      | some (.bool b') => match b', b with
        | true, true => some true
        | false, false => some true
        | _, _ => some false
      | some (.tuple _) => some false
      | _ => none
abbrev Cont := Trie Value → List ADef → AH → Option Res
def onTm (t : Option (Trie Value)) (k : Trie Value → Option Res) : Option Res := @Option.rec (Trie Value) (fun _ => Option Res) none k t
def opEnd (nt : Nat) (o : Oper) (k : Cont) (tm : Trie Value) (df : List ADef) (r : Option OpRes) : Option Res :=
  @Option.rec OpRes (fun _ => Option Res) none (fun s => @OpRes.rec (fun _ => Option Res) (fun v df' h' => onTm (tput nt tm o.dst v) fun tm' => k tm' df' h') (fun v h' => some (.code (.panic v) tm df h')) s) r
def opGo (C : Ctx) (rec_ : Task → Option Res) (rd : Option Nat) (nt : Nat) (o : Oper) (k : Cont) (tm : Trie Value) (df : List ADef) (h : AH) (wanted : Bool) : Option Res :=
  @Bool.rec (fun _ => Option Res) (onTm (tput nt tm o.dst undef) fun tm' => k tm' df h) (opEnd nt o k tm df (evOp C rec_ rd o.op (evl C.G (tval tm)) df h)) wanted
def onWant (w : Option Bool) (k : Bool → Option Res) : Option Res := @Option.rec Bool (fun _ => Option Res) none k w
def evOps (C : Ctx) (rec_ : Task → Option Res) (rd : Option Nat) (nt : Nat) (ops : Array Oper) (l : List Oper) : Trie Value → List ADef → AH → Option Res :=
  @List.rec Oper (fun _ => Cont) (fun tm df h => some (.code .normal tm df h)) (fun o _ k tm df h => onWant (want ops (tval tm) o) (opGo C rec_ rd nt o k tm df h)) l
theorem evOps_nil (C : Ctx) (rec_ : Task → Option Res) (rd : Option Nat) (nt : Nat) (ops : Array Oper) (tm : Trie Value) (df : List ADef) (h : AH) : evOps C rec_ rd nt ops [] tm df h = some (.code .normal tm df h) := rfl
theorem evOps_cons (C : Ctx) (rec_ : Task → Option Res) (rd : Option Nat) (nt : Nat) (ops : Array Oper) (o : Oper) (l : List Oper) (tm : Trie Value) (df : List ADef) (h : AH) : evOps C rec_ rd nt ops (o :: l) tm df h =
    match want ops (tval tm) o with
    | none => none
    | some false => match tput nt tm o.dst undef with
      | none => none
      | some tm' => evOps C rec_ rd nt ops l tm' df h
    | some true => match evOp C rec_ rd o.op (evl C.G (tval tm)) df h with
      | none => none
      | some (.pan v h') => some (.code (.panic v) tm df h')
      | some (.val v df' h') => match tput nt tm o.dst v with
        | none => none
        | some tm' => evOps C rec_ rd nt ops l tm' df' h' := by
  show onWant (want ops (tval tm) o) (opGo C rec_ rd nt o (evOps C rec_ rd nt ops l) tm df h) = _
  generalize want ops (tval tm) o = wn
  cases wn with
  | none => rfl
  | some b =>
    cases b with
    | false =>
      show onTm (tput nt tm o.dst undef) (fun tm' => evOps C rec_ rd nt ops l tm' df h) = _
      generalize tput nt tm o.dst undef = t
      cases t <;> rfl
    | true =>
      show opEnd nt o (evOps C rec_ rd nt ops l) tm df (evOp C rec_ rd o.op (evl C.G (tval tm)) df h) = _
      generalize evOp C rec_ rd o.op (evl C.G (tval tm)) df h = r
      cases r with
      | none => rfl
      | some r =>
        cases r with
        | pan v h' => rfl
        | val v df' h' =>
          show onTm (tput nt tm o.dst v) (fun tm' => evOps C rec_ rd nt ops l tm' df' h') = _
          simp only []
          generalize tput nt tm o.dst v = t
          cases t <;> rfl

/-- the same in a deferred call, where recover answers; pn: what the caller's panic is, and whether it was recovered -/
def isRecover : Op → Bool
  | .call c => match c.callee with
    | .builtin .recover => true
    | _ => false
  | _ => false
def evOpsS (C : Ctx) (nt : Nat) (ops : Array Oper) : List Oper → Trie Value → AH → Option (Value × Bool) → Option (Trie Value × AH × Option (Value × Bool))
  | [], tm, h, pn => some (tm, h, pn)
  | o :: l, tm, h, pn => match want ops (tval tm) o with
    | none => none
    | some false => match tput nt tm o.dst undef with
      | none => none
      | some tm' => evOpsS C nt ops l tm' h pn
    | some true => match isRecover o.op with
      | true => match pn with
        | some (v, false) => match tput nt tm o.dst v with
          | none => none
          | some tm' => evOpsS C nt ops l tm' h (some (v, true))
        | _ => match tput nt tm o.dst .nilIface with
          | none => none
          | some tm' => evOpsS C nt ops l tm' h pn
      | false => match aop C.P C.G h (evl C.G (tval tm)) o.op with
        | none => none
        | some (v, h') => match tput nt tm o.dst v with
          | none => none
          | some tm' => evOpsS C nt ops l tm' h' pn

/-- a function's answer -/
def evResult (P : Program) (h : AH) (tm : Trie Value) : ResultVar → Option Value
  | .tmp t => tval tm t
  | .cell a t => match tval tm a with
    | none => none
    | some x => aload P h t x
def evResults1 (P : Program) (h : AH) (tm : Trie Value) : List ResultVar → Option (List Value)
  | [] => some []
  | r :: rs => match evResult P h tm r with
    | none => none
    | some v => match evResults1 P h tm rs with
      | none => none
      | some l => some (v :: l)
def evResults (P : Program) (fn : Func) (h : AH) (tm : Trie Value) : Option Value :=
  match evResults1 P h tm fn.results.toList with
  | none => none
  | some [v] => some v
  | some l => some (.tuple l.toArray)

def startTm (args : List Value) : Option (Trie Value) := Trie.nil.puts D 0 args

/-- a deferred call -/
def finD (C : Ctx) (fn : Func) (pn : Option (Value × Bool)) (r : Option Res) : Option (AH × Option (Value × Bool)) :=
  match r with
  | some (.code .normal tm [] h) => match evResults C.P fn h tm with
    | some _ => some (h, pn)
    | none => none
  | some (.code .ret tm [] h) => match evResults C.P fn h tm with
    | some _ => some (h, pn)
    | none => none
  | _ => none
def evDef (C : Ctx) (rec_ : Task → Option Res) (g : FuncId) (args : List Value) (h : AH) (pn : Option (Value × Bool)) : Option (AH × Option (Value × Bool)) :=
  match C.fns.get g with
  | none => none
  | some fn => match fn.body with
    | none => none
    | some c => match startTm args with
      | none => none
      | some tm => match c with
        | .seq (.region _ ops false) b => match evOpsS C (args.length + (fn.ntmps - args.length)) ops ops.toList tm h pn with
          | none => none
          | some (tm, h, pn) => finD C fn pn (rec_ (.code none (args.length + (fn.ntmps - args.length)) b tm [] h))
        | c => finD C fn pn (rec_ (.code none (args.length + (fn.ntmps - args.length)) c tm [] h))
def settleA : Option (Value × Bool) → Option (Value × Bool)
  | some (_, true) => none
  | x => x
def evDefs (C : Ctx) (rec_ : Task → Option Res) (fn : Func) (tm : Trie Value) : List ADef → Option (Value × Bool) → AH → Option Res
  | [], none, h => match evResults C.P fn h tm with
    | some v => some (.ret v h)
    | none => none
  | [], some (v, false), h => some (.pan v h)
  | [], some (_, true), h => none
  | .mark b :: ds, pn, h => match Nat.ble C.G b with
    | false => none
    | true => match h.blks.get b with
      | some .noDefers => match h.blks.put D b none with
        | some blks => evDefs C rec_ fn tm ds pn { h with blks := blks }
        | none => none
      | _ => none
  | .call g args :: ds, pn, h => match evDef C rec_ g args h pn with
    | none => none
    | some (h', pn') => evDefs C rec_ fn tm ds (settleA pn') h'

def evFunc (C : Ctx) (rec_ : Task → Option Res) (f : FuncId) (args : List Value) (h : AH) : Option Res :=
  match C.fns.get f with
  | none => none
  | some fn => match fn.body with
    | none => none
    | some c => match startTm args with
      | none => none
      | some tm => match rec_ (.code none (args.length + (fn.ntmps - args.length)) c tm [] h) with
        | some (.code .normal tm df h) => evDefs C rec_ fn tm df none h
        | some (.code .ret tm df h) => evDefs C rec_ fn tm df none h
        | some (.code (.panic v) tm df h) => evDefs C rec_ fn tm df (some (v, false)) h
        | _ => none

/-! ### ranges over functions -/
def putLoop (C : Ctx) (h : AH) (l : Nat) (r : ALoop) : Option AH :=
  match h.blks.put D l (some (.loop r)) with
  | some blks => some { h with blks := blks }
  | none => none
def getLoopA (C : Ctx) (h : AH) (l : Nat) : Option ALoop :=
  match Nat.ble C.G l with
  | false => none
  | true => match h.blks.get l with
    | some (.loop r) => some r
    | _ => none
def putParams (nt : Nat) : Trie Value → List Tmp → List Value → Option (Trie Value)
  | tm, [], [] => some tm
  | tm, t :: ts, v :: vs => match tput nt tm (some t) v with
    | none => none
    | some tm' => putParams nt tm' ts vs
  | _, _, _ => none
def evRoundEnd (C : Ctx) (l : Nat) (ex : Ex) (h : AH) : Option Res :=
  match getLoopA C h l with
  | none => none
  | some r => match ex with
    | .normal => match putLoop C h l { r with state := .ready, pending := none } with
      | none => none
      | some h => some (.ret (.bool true) h)
    | .ret => match putLoop C h l { r with state := .done, pending := some .ret } with
      | none => none
      | some h => some (.ret (.bool false) h)
    | .exit id => match putLoop C h l { r with state := .done, pending := some (.exit id) } with
      | none => none
      | some h => some (.ret (.bool false) h)
    | .goto t => match putLoop C h l { r with state := .done, pending := some (.goto t) } with
      | none => none
      | some h => some (.ret (.bool false) h)
    | .panic _ => none
def evRound (C : Ctx) (rec_ : Task → Option Res) (l : Nat) (args : List Value) (h : AH) : Option Res :=
  match getLoopA C h l with
  | none => none
  | some r => match putParams r.nt r.tmps r.params.toList args with
    | none => none
    | some tm => match rec_ (.code (some l) r.nt r.assign tm [] h) with
      | some (.code .normal tm df h) => match getLoopA C h l with
        | none => none
        | some r1 => match r1.state with
          | .ready => match putLoop C h l { r1 with state := .busy } with
            | none => none
            | some h => match rec_ (.code (some l) r.nt r.body tm df h) with
              | some (.code ex _ _ h) => evRoundEnd C l ex h
              | _ => none
          | _ => none
      | _ => none
def isBusy : LoopState → Bool
  | .busy => true
  | _ => false
def evRangeGo (C : Ctx) (rec_ : Task → Option Res) (rd : Option Nat) (nt : Nat) (g : Operand) (ps : Array Tmp) (assign body : Code) (tm : Trie Value) (df : List ADef) (dfs : Nat) (h : AH) : Option Res :=
  match Nat.ble C.G h.next with
  | false => none
  | true => match h.blks.put D h.next (some (.loop { state := .ready, pending := none, tmps := tm, nt := nt, params := ps, assign := assign, body := body, defers := dfs })) with
    | none => none
    | some blks => match evl C.G (tval tm) g with
      | some (.func (.func f) first captured) => match rec_ (.call f (first.toList ++ [.func (.yield h.next) #[] #[]] ++ captured.toList) { blks := blks, next := h.next + 1 }) with
        | some (.ret _ h2) => match getLoopA C h2 h.next with
          | none => none
          | some r => match isBusy r.state with
            | true => none
            | false => match putLoop C h2 h.next { r with state := .exhausted } with
              | none => none
              | some h3 => match r.pending with
                | none => some (.code .normal tm df h3)
                | some c => rec_ (.code rd nt c tm df h3)
        | some (.pan v h2) => some (.code (.panic v) tm df h2)
        | _ => none
      | _ => none
def evRange (C : Ctx) (rec_ : Task → Option Res) (rd : Option Nat) (nt : Nat) (g : Operand) (ps : Array Tmp) (assign body : Code) (tm : Trie Value) (df : List ADef) (h : AH) : Option Res :=
  match rd with
  | some _ => none
  | none => match Nat.ble C.G h.next with
    | false => none
    | true => match h.blks.put D h.next (some .noDefers) with
      | none => none
      | some blks => evRangeGo C rec_ none nt g ps assign body tm (.mark h.next :: df) h.next { blks := blks, next := h.next + 1 }

def onCode (r : Option Res) (k : Ex → Trie Value → List ADef → AH → Option Res) : Option Res :=
  @Option.rec Res (fun _ => Option Res) none (fun s => @Res.rec (fun _ => Option Res) k (fun _ _ => none) (fun _ _ => none) s) r
def ifNormal (r : Option Res) (n : Option Res) (ex : Ex) : Option Res := @Ex.rec (fun _ => Option Res) n (fun _ => r) (fun _ => r) r (fun _ => r) ex
def seqK (rec_ : Task → Option Res) (rd : Option Nat) (nt : Nat) (b : Code) (r : Option Res) : Option Res := onCode r fun ex tm df h => ifNormal r (rec_ (.code rd nt b tm df h)) ex
def loopK (rec_ : Task → Option Res) (rd : Option Nat) (nt : Nat) (b : Code) (r : Option Res) : Option Res := onCode r fun ex tm df h => ifNormal r (rec_ (.iter rd nt b tm df h)) ex
def isExit (id : Nat) (r n : Option Res) (ex : Ex) : Option Res := @Ex.rec (fun _ => Option Res) r (fun id' => @Bool.rec (fun _ => Option Res) r n (Nat.beq id' id)) (fun _ => r) r (fun _ => r) ex
def blockK (id : Nat) (r : Option Res) : Option Res := onCode r fun ex tm df h => isExit id r (some (.code .normal tm df h)) ex
def condK (v : Option Value) (a b : Option Res) : Option Res :=
  match v with
  | some (.bool t) => @Bool.rec (fun _ => Option Res) b a t
  | _ => none
abbrev Draw := (Task → Option Res) → Option Nat → Nat → Array Oper → Trie Value → List ADef → AH → Option Res
def evCode (C : Ctx) (draw : Draw) (rec_ : Task → Option Res) (rd : Option Nat) (nt : Nat) (c : Code) (tm : Trie Value) (df : List ADef) (h : AH) : Option Res :=
  @Code.rec (fun _ => Option Res)
    (some (.code .normal tm df h))
    (fun _ ops d => @Bool.rec (fun _ => Option Res) (evOps C rec_ rd nt ops ops.toList tm df h) (draw rec_ rd nt ops tm df h) d)
    (fun a b _ _ => seqK rec_ rd nt b (rec_ (.code rd nt a tm df h)))
    (fun x a b _ _ => condK (evl C.G (tval tm) x) (rec_ (.code rd nt a tm df h)) (rec_ (.code rd nt b tm df h)))
    (fun id b _ => blockK id (rec_ (.code rd nt b tm df h)))
    (fun b _ => loopK rec_ rd nt b (rec_ (.code rd nt b tm df h)))
    (fun g ps assign body _ _ => evRange C rec_ rd nt g ps assign body tm df h)
    (fun id => some (.code (.exit id) tm df h))
    (fun b _ => rec_ (.scope rd nt b b tm df h))
    (fun _ => some (.code .normal tm df h))
    (fun l => some (.code (.goto l) tm df h))
    (some (.code .ret tm df h))
    (fun _ => none)
    c
def evScope (C : Ctx) (rec_ : Task → Option Res) (rd : Option Nat) (nt : Nat) (body c : Code) (tm : Trie Value) (df : List ADef) (h : AH) : Option Res :=
  match rec_ (.code rd nt c tm df h) with
  | some (.code (.goto l) tm df h) => match findLabel body l with
    | some rest => rec_ (.scope rd nt body rest tm df h)
    | none => some (.code (.goto l) tm df h)
  | r => r
def evStep (C : Ctx) (draw : Draw) (rec_ : Task → Option Res) (t : Task) : Option Res :=
  @Task.rec (fun _ => Option Res)
    (fun rd nt c tm df h => evCode C draw rec_ rd nt c tm df h)
    (fun rd nt body c tm df h => evScope C rec_ rd nt body c tm df h)
    (fun f args h => evFunc C rec_ f args h)
    (fun l args h => evRound C rec_ l args h)
    (fun rd nt b tm df h => loopK rec_ rd nt b (rec_ (.code rd nt b tm df h)))
    t
def ev (C : Ctx) (draw : Draw) (n : Nat) : Task → Option Res :=
  @Nat.rec (fun _ => Task → Option Res) (fun _ => none) (fun _ rec_ => evStep C draw rec_) n

end
end Go.Ev

/- Ev: the evaluator is right: one operation. -/
namespace Go.Ev
noncomputable section
set_option linter.unusedVariables false
set_option linter.unusedSimpArgs false

def FW : Option Nat → Fence
  | none => Fence.wide
  | some l => Fence.wide.inRound l
theorem FW_round (rd : Option Nat) : (FW rd).round = rd := by cases rd <;> rfl
theorem FW_fn (rd : Option Nat) (f : FuncId) : (FW rd).fn f := by cases rd <;> trivial
theorem FW_room (rd : Option Nat) (n : Nat) : (FW rd).room n := by cases rd <;> exact fun _ h => by simp [FW, Fence.wide, Fence.inRound] at h
theorem FW_depth (rd : Option Nat) : (FW rd).depth = none := by cases rd <;> rfl
theorem FW_calls {rd : Option Nat} {n : Nat} {P : Program} {f : FuncId} {args : Array Value} {w : World} {R : Ending → World → Prop} (h : CallsIn Fence.wide n P f args w R) : CallsIn (FW rd) n P f args w R := by
  cases rd <;> exact h
theorem FW_round_in {rd : Option Nat} {n : Nat} {P : Program} {l : Nat} {f : FuncId} {tmps : Array Value} {assign body : Code} {w : World} {R : Ending → World → Prop} (h : RoundIn Fence.wide n P l f tmps assign body w R) : RoundIn (FW rd) n P l f tmps assign body w R := by
  cases rd <;> exact h

/-- a deferred call, here and there -/
def DR (E : Nat → Option Value) (σ : Emb) : ADef → Deferred → Prop
  | .call g args, d => ∃ cap args', d = { target := .fn (.func g) cap, args := args' } ∧ VL E σ args (args' ++ cap).toList
  | .mark b, d => ∃ b', σ b = some b' ∧ d = { target := .collected b', args := #[] }
def DL (E : Nat → Option Value) (σ : Emb) : List ADef → List Deferred → Prop
  | [], [] => True
  | a :: l, d :: m => DR E σ a d ∧ DL E σ l m
  | _, _ => False
theorem DR.mono {E : Nat → Option Value} {σ σ' : Emb} (h : Le σ σ') {a : ADef} {d : Deferred} (k : DR E σ a d) : DR E σ' a d := by
  cases a with
  | call g args => obtain ⟨cap, args', e, hv⟩ := k; exact ⟨cap, args', e, hv.mono h⟩
  | mark b => obtain ⟨b', e, hd⟩ := k; exact ⟨b', (h _ _ e).1, hd⟩
theorem DL.mono {E : Nat → Option Value} {σ σ' : Emb} (h : Le σ σ') : ∀ {l : List ADef} {m : List Deferred}, DL E σ l m → DL E σ' l m := by
  intro l
  induction l with
  | nil => intro m k; cases m with
    | nil => trivial
    | cons _ _ => exact k.elim
  | cons a l ih => intro m k; cases m with
    | nil => exact k.elim
    | cons d m => exact ⟨k.1.mono h, ih k.2⟩

section
variable (E : Nat → Option Value) (W0 : World) (C : Ctx)
/-- a frame's state, and the memory's -/
structure SR (σ : Emb) (nt : Nat) (tm : Trie Value) (df : List ADef) (h : AH) (a : Act) (w : World) : Prop where
  tr : TR E σ nt tm a.tmps
  dl : DL E σ df a.defers
  hr : HR E C.P C.G W0 σ h w
def ExR (σ : Emb) : Ex → Exit → Prop
  | .normal, .normal => True
  | .exit i, .exit j => i = j
  | .goto i, .goto j => i = j
  | .ret, .ret => True
  | .panic v, .panic ch => ∃ v', ch = [{ v := v', recovered := false }] ∧ VR E σ v v'
  | _, _ => False
def RD (σ : Emb) : Option Nat → Option Nat → Prop
  | none, none => True
  | some l, some l' => σ l = some l'
  | _, _ => False
def Post (σ : Emb) (nt : Nat) (h : AH) (ex : Ex) (tm' : Trie Value) (df' : List ADef) (h' : AH) : Exit → Act → World → Prop :=
  fun e a' w' => ∃ σ', Ext h.next σ σ' ∧ h.next ≤ h'.next ∧ ExR E σ' ex e ∧ SR E W0 C σ' nt tm' df' h' a' w'
def PostRet (σ : Emb) (h : AH) (v : Value) (h' : AH) : Ending → World → Prop :=
  fun e w' => ∃ σ' v', e = .returned v' ∧ Ext h.next σ σ' ∧ h.next ≤ h'.next ∧ VR E σ' v v' ∧ HR E C.P C.G W0 σ' h' w'
def PostPan (σ : Emb) (h : AH) (v : Value) (h' : AH) : Ending → World → Prop :=
  fun e w' => ∃ σ' v', e = .panicked [{ v := v', recovered := false }] ∧ Ext h.next σ σ' ∧ h.next ≤ h'.next ∧ VR E σ' v v' ∧ HR E C.P C.G W0 σ' h' w'
def ScopeWp (F : Fence) (body c : Code) (Q : Exit → Act → World → Prop) (a : Act) (w : World) : Prop :=
  ∀ (b : Frame) (k : List Item) (cs : List Frame), b.roundOf = F.round → F.fn b.fn → F.room (cs.length + 1 + 0) →
    ∃ e a' w', Q e a' w' ∧ ArrivesIn (Machine.fenced C.P F) C.P (lone (b.atR a (.code c :: .inScope body :: k)) cs w) b k cs e a' w'
def IterWp (F : Fence) (body : Code) (Q : Exit → Act → World → Prop) (a : Act) (w : World) : Prop :=
  ∀ (b : Frame) (k : List Item) (cs : List Frame), b.roundOf = F.round → F.fn b.fn → F.room (cs.length + 1 + 0) →
    ∃ e a' w', Q e a' w' ∧ ArrivesIn (Machine.fenced C.P F) C.P (lone (b.atR a (.inLoop body :: k)) cs w) b k cs e a' w'
def TaskOK : Task → Res → Prop
  | .code rd nt c tm df h, .code ex tm' df' h' => ∀ σ w a rd', SR E W0 C σ nt tm df h a w → RD σ rd rd' → c.wpIn (FW rd') 0 C.P (Post E W0 C σ nt h ex tm' df' h') a w
  | .scope rd nt body c tm df h, .code ex tm' df' h' => ∀ σ w a rd', SR E W0 C σ nt tm df h a w → RD σ rd rd' → ScopeWp C (FW rd') body c (Post E W0 C σ nt h ex tm' df' h') a w
  | .iter rd nt c tm df h, .code ex tm' df' h' => ∀ σ w a rd', SR E W0 C σ nt tm df h a w → RD σ rd rd' → IterWp C (FW rd') c (Post E W0 C σ nt h ex tm' df' h') a w
  | .call f args h, .ret v h' => ∀ σ w args', HR E C.P C.G W0 σ h w → VL E σ args args' → (C.fns.get f).any (·.body.isSome) = true ∧ CallsIn Fence.wide 0 C.P f args'.toArray w (PostRet E W0 C σ h v h')
  | .call f args h, .pan v h' => ∀ σ w args', HR E C.P C.G W0 σ h w → VL E σ args args' → (C.fns.get f).any (·.body.isSome) = true ∧ CallsIn Fence.wide 0 C.P f args'.toArray w (PostPan E W0 C σ h v h')
  | .round l args h, .ret v h' => ∀ σ w l' args', HR E C.P C.G W0 σ h w → σ l = some l' → VL E σ args args' →
      ∃ fn tmps asg body, (Instr.yield l' args'.toArray).run C.P w = .ok (.round l' fn tmps asg body) w ∧ RoundIn Fence.wide 0 C.P l' fn tmps asg body w (PostRet E W0 C σ h v h')
  | _, _ => False
def CallDid (σ : Emb) (h : AH) (w : World) (g : FuncId) (args' : List Value) (v : Value) (h' : AH) : Prop :=
  (∃ σ' v' w', (callFunc g args'.toArray).run C.P w = .ok (.value v') w' ∧ Ext h.next σ σ' ∧ h.next ≤ h'.next ∧ VR E σ' v v' ∧ HR E C.P C.G W0 σ' h' w') ∨
  ((callFunc g args'.toArray).run C.P w = .ok (.enter g args'.toArray) w ∧ CallsIn Fence.wide 0 C.P g args'.toArray w (PostRet E W0 C σ h v h'))
structure COK : Prop where
  fns : ∀ f fn, C.fns.get f = some fn → C.P.funcs[f]? = some fn
  names : ∀ f fn, C.fns.get f = some fn → fn.body.isSome = true → (fn.name == "runtime.NumGoroutine") = false
  meth : ∀ t name g, C.meth t name = some g → ∀ v w, (method (C.P.types.size + Made.depth) t v name).run C.P w = .ok (g, v) w
  stub : ∀ g s args h v h', C.stub g = some s → s args h = some (v, h') → ∀ σ w args', HR E C.P C.G W0 σ h w → VL E σ args args' → CallDid E W0 C σ h w g args' v h'
end

variable {E : Nat → Option Value} {W0 : World} {C : Ctx}

theorem SR.ev {σ : Emb} {nt : Nat} {tm : Trie Value} {df : List ADef} {h : AH} {a : Act} {w : World} (s : SR E W0 C σ nt tm df h a w) : ∀ x u, evl C.G (tval tm) x = some u → VR E σ u (a.eval x) := by
  intro x u hx
  refine evl_sound s.hr.glob (fun t v ht => ?_) (fun v => rfl) (fun g => rfl) (fun f => rfl) hx
  have := s.tr.2 t
  unfold tval at ht
  cases hg : tm.get t with
  | none => rw [hg] at ht this; simp only [] at ht; injection ht with ht; subst ht; exact this
  | some v' => rw [hg] at ht this; simp only [] at ht; injection ht with ht; subst ht; exact this

theorem TR.put {σ : Emb} {nt : Nat} {tm tm' : Trie Value} {d : Option Tmp} {v v' : Value} {a : Act} (s : TR E σ nt tm a.tmps) (hv : VR E σ v v') (e : tput nt tm d v = some tm') : TR E σ nt tm' (a.put d v').tmps := by
  cases d with
  | none => simp only [tput] at e; injection e with e; subst e; exact s
  | some t =>
    simp only [tput] at e
    split at e
    · rename_i hb
      have hb := ble_true hb
      refine ⟨by simp [Act.put, s.1], fun x => ?_⟩
      rw [Trie.get_put _ _ _ _ _ e]
      by_cases hx : x = t
      · subst hx
        rw [if_pos rfl]
        have : x < a.tmps.size := by rw [s.1]; omega
        simp [Act.put, this]; exact hv
      · rw [if_neg hx]
        have := s.2 x
        simpa [Act.put, Array.getElem?_setIfInBounds_ne (fun e => hx e.symm)] using this
    · cases e

theorem run_callFunc (ok : COK E W0 C) {g : FuncId} (h : (C.fns.get g).any (·.body.isSome) = true) (args : Array Value) (w : World) : (callFunc g args).run C.P w = .ok (.enter g args) w := by
  cases hf : C.fns.get g with
  | none => rw [hf] at h; cases h
  | some fn =>
    rw [hf] at h
    have hb : fn.body.isSome = true := by simpa using h
    have hn := ok.names g fn hf hb
    have hp := ok.fns g fn hf
    have hnone : fn.body.isNone = false := by cases hbb : fn.body <;> simp_all
    simp only [callFunc, Sem.run_bind, run_program, Result.andThen_ok, hp, hn, hnone, Bool.false_eq_true, if_false, Sem.run_pure]

theorem target_fn {ev : Operand → Option Value} {ρ : Operand → Value} {σ : Emb} (ok : COK E W0 C) (hev : ∀ x u, ev x = some u → VR E σ u (ρ x)) {c : Call} {ty : TypeId} {g : FuncId} {args : List Value} (e : target C ev c = some (.fn g args)) :
    ∃ args', VL E σ args args' ∧ ∀ w, (do let d ← resolve ρ c ty; invoke d.target d.args : Sem Next).run C.P w = (callFunc g args'.toArray).run C.P w := by
  unfold target at e
  split at e
  · cases e
  · rename_i as has
    have hv := evls_sound hev has
    have eargs : c.args.map ρ = (c.args.toList.map ρ).toArray := by apply Array.ext'; simp
    split at e
    · cases e
    · rename_i f hc
      split at e
      · rename_i g' first captured hf
        injection e with e; injection e with e1 e2; subst e1 e2
        have hr := hev f _ hf
        cases hr' : ρ f <;> rw [hr'] at hr <;> (try (cases hr; done))
        rename_i fn first' captured'
        cases hr with
        | lit q => simp [lit] at q
        | func ha hA hcc hC =>
          refine ⟨first'.toList ++ c.args.toList.map ρ ++ captured'.toList, (VL.of_array ha hA |>.append hv).append (VL.of_array hcc hC), fun w => ?_⟩
          simp only [resolve, hc, hr', Deferred.ofValue, Sem.run_bind, Sem.run_pure, Result.andThen_ok, invoke, eargs]
          congr 2
          apply Array.ext'; simp
      · cases e
      · cases e
    · rename_i r name hc
      split at e
      · rename_i t v hr0
        split at e
        · rename_i g' hm
          injection e with e; injection e with e1 e2; subst e1 e2
          have hr := hev r _ hr0
          cases hr' : ρ r <;> rw [hr'] at hr <;> (try (cases hr; done))
          · rename_i t' v'
            cases hr with
            | lit q => simp [lit] at q
            | iface hvv =>
              refine ⟨v' :: c.args.toList.map ρ, VL.cons hvv hv, fun w => ?_⟩
              have hmm := ok.meth _ _ _ hm v' w
              have e0 : (#[Value.iface t v'] ++ (c.args.toList.map ρ).toArray)[0]? = some (Value.iface t v') := by simp
              simp only [resolve, hc, hr', Sem.run_bind, Sem.run_pure, Result.andThen_ok, invoke, eargs, e0, callMethod, run_program, hmm]
              congr 2
              apply Array.ext'; simp; exact List.take_of_length_le (by simp)
        · cases e
      · cases e

theorem target_yield {ev : Operand → Option Value} {ρ : Operand → Value} {σ : Emb} (hev : ∀ x u, ev x = some u → VR E σ u (ρ x)) {c : Call} {ty : TypeId} {l : Nat} {args : List Value} (e : target C ev c = some (.yield l args)) :
    ∃ l' args', σ l = some l' ∧ VL E σ args args' ∧ ∀ w, (do let d ← resolve ρ c ty; invoke d.target d.args : Sem Next).run C.P w = (Instr.yield l' args'.toArray).run C.P w := by
  unfold target at e
  split at e
  · cases e
  · rename_i as has
    have hv := evls_sound hev has
    have eargs : c.args.map ρ = (c.args.toList.map ρ).toArray := by apply Array.ext'; simp
    split at e
    · cases e
    · rename_i f hc
      split at e
      · cases e
      · rename_i l0 first captured hf
        injection e with e; injection e with e1 e2; subst e1 e2
        have hr := hev f _ hf
        cases hr' : ρ f <;> rw [hr'] at hr <;> (try (cases hr; done))
        cases hr with
        | lit q => simp [lit] at q
        | yield hl =>
          refine ⟨_, c.args.toList.map ρ, hl, hv, fun w => ?_⟩
          simp only [resolve, hc, hr', Deferred.ofValue, Sem.run_bind, Sem.run_pure, Result.andThen_ok, invoke, eargs]
          congr 2
          apply Array.ext'; simp
      · cases e
    · split at e
      · split at e <;> cases e
      · cases e

end
end Go.Ev

/- Ev: the evaluator is right: operations, regions. -/
namespace Go.Ev
noncomputable section
set_option linter.unusedVariables false
set_option linter.unusedSimpArgs false
variable {E : Nat → Option Value} {W0 : World} {C : Ctx} {rec_ : Task → Option Res}

def OpPost (E : Nat → Option Value) (W0 : World) (C : Ctx) (σ : Emb) (h : AH) (rd' : Option Nat) (o : Oper) (a : Act) (w : World) : OpRes → Prop
  | .val v df' h' => ∀ (next : Act → World → Prop) (Q : Exit → Act → World → Prop), (∀ σ' v' w' ds, Ext h.next σ σ' → h.next ≤ h'.next → VR E σ' v v' → HR E C.P C.G W0 σ' h' w' → DL E σ' df' ds → next ({ a with defers := ds }.put o.dst v') w') → o.wpIn (FW rd') 0 C.P a w next Q
  | .pan v h' => ∀ (next : Act → World → Prop) (Q : Exit → Act → World → Prop), (∀ σ' v' w', Ext h.next σ σ' → h.next ≤ h'.next → VR E σ' v v' → HR E C.P C.G W0 σ' h' w' → Q (.panic [{ v := v', recovered := false }]) a w') → o.wpIn (FW rd') 0 C.P a w next Q

theorem nodepth {rd' : Option Nat} (hh : (FW rd').depth.isSome = true) : 1 ≤ 0 := by rw [FW_depth] at hh; cases hh
theorem sem_at {rd' : Option Nat} {ρ : Operand → Value} {o : Oper} (h : ∀ c, o.op ≠ .defer c) : o.semAt (FW rd').round ρ = execOp ρ o := Oper.semAt_eq _ _ _ h

theorem did_post {σ : Emb} {df : List ADef} {h h' : AH} {a : Act} {w : World} {rd' : Option Nat} {o : Oper} {v : Value} (hR0 : HR E C.P C.G W0 σ h w) (hdl : DL E σ df a.defers)
    (hd : ∀ c, o.op ≠ .defer c) (d : OpDid E C.P C.G W0 σ h w (execOp a.eval o) v h') : OpPost E W0 C σ h rd' o a w (.val v df h') := by
  intro next Q hn
  obtain ⟨σ', v', w', hr, hx, hv, hR, hle⟩ := d
  refine ⟨fun f _ => FW_fn _ f, ?_⟩
  rw [sem_at hd]
  have hds := hdl.mono (Ext.le hR0 hx)
  have := hn σ' v' w' a.defers hx hle hv hR hds
  rcases hr with hr | ⟨hr, e⟩
  · rw [hr]; exact this
  · subst e; rw [hr]; exact this

theorem call_post (ok : COK E W0 C) (hrec : ∀ t r, rec_ t = some r → TaskOK E W0 C t r) {σ : Emb} {ev : Operand → Option Value} {df : List ADef} {h : AH} {a : Act} {w : World} {rd' : Option Nat} {o : Oper} {c : Call} {r : OpRes} (hR0 : HR E C.P C.G W0 σ h w) (hdl : DL E σ df a.defers) (hev : ∀ x u, ev x = some u → VR E σ u (a.eval x))
    (ho : o.op = .call c) (e : evCall C rec_ (target C ev c) df h = some r) : OpPost E W0 C σ h rd' o a w r := by
  have hd : ∀ c, o.op ≠ .defer c := fun c' hc => by rw [ho] at hc; cases hc
  have hex : execOp a.eval o = (do let d ← resolve a.eval c o.type; invoke d.target d.args) := by simp only [execOp, ho]
  unfold evCall at e
  split at e
  · cases e
  · rename_i g args ht
    obtain ⟨args', hv, hrun⟩ := target_fn (ty := o.type) ok hev ht
    split at e
    · rename_i st hst
      split at e
      · rename_i v h' hsv
        injection e with e; subst e
        intro next Q hn
        refine ⟨fun f _ => FW_fn _ f, ?_⟩
        rw [sem_at hd, hex, hrun]
        rcases ok.stub g st args h v h' hst hsv σ w args' hR0 hv with ⟨σ', v', w', hr, hx, hle, hvv, hR⟩ | ⟨hr, hc⟩
        · rw [hr]
          exact hn σ' v' w' a.defers hx hle hvv hR (hdl.mono (Ext.le hR0 hx))
        · rw [hr]
          refine ⟨nodepth, FW_calls (hc.mono fun e w' he => ?_)⟩
          obtain ⟨σ', v', rfl, hx, hle, hvv, hR⟩ := he
          exact hn σ' v' w' a.defers hx hle hvv hR (hdl.mono (Ext.le hR0 hx))
      · cases e
    · split at e
      · rename_i v h' hrv
        injection e with e; subst e
        obtain ⟨hb, hc⟩ := hrec _ _ hrv σ w args' hR0 hv
        intro next Q hn
        refine ⟨fun f _ => FW_fn _ f, ?_⟩
        rw [sem_at hd, hex, hrun, run_callFunc ok hb]
        refine ⟨nodepth, FW_calls (hc.mono fun e w' he => ?_)⟩
        obtain ⟨σ', v', rfl, hx, hle, hvv, hR⟩ := he
        exact hn σ' v' w' a.defers hx hle hvv hR (hdl.mono (Ext.le hR0 hx))
      · rename_i v h' hrv
        injection e with e; subst e
        obtain ⟨hb, hc⟩ := hrec _ _ hrv σ w args' hR0 hv
        intro next Q hn
        refine ⟨fun f _ => FW_fn _ f, ?_⟩
        rw [sem_at hd, hex, hrun, run_callFunc ok hb]
        refine ⟨nodepth, FW_calls (hc.mono fun e w' he => ?_)⟩
        obtain ⟨σ', v', rfl, hx, hle, hvv, hR⟩ := he
        exact hn σ' v' w' hx hle hvv hR
      · cases e
  · rename_i l args ht
    obtain ⟨l', args', hl, hv, hrun⟩ := target_yield (ty := o.type) hev ht
    split at e
    · rename_i v h' hrv
      injection e with e; subst e
      obtain ⟨fn, tmps, asg, body, hy, hc⟩ := hrec _ _ hrv σ w l' args' hR0 hl hv
      intro next Q hn
      refine ⟨fun f _ => FW_fn _ f, ?_⟩
      rw [sem_at hd, hex, hrun, hy]
      refine ⟨nodepth, FW_round_in (hc.mono fun e w' he => ?_)⟩
      obtain ⟨σ', v', rfl, hx, hle, hvv, hR⟩ := he
      exact hn σ' v' w' a.defers hx hle hvv hR (hdl.mono (Ext.le hR0 hx))
    · cases e

theorem evOp_sound (ok : COK E W0 C) (hrec : ∀ t r, rec_ t = some r → TaskOK E W0 C t r) {σ : Emb} {ev : Operand → Option Value} {df : List ADef} {h : AH} {a : Act} {w : World} {rd rd' : Option Nat} {o : Oper} {r : OpRes} (hR0 : HR E C.P C.G W0 σ h w) (hdl : DL E σ df a.defers) (hev : ∀ x u, ev x = some u → VR E σ u (a.eval x)) (hrd : RD σ rd rd')
    (e : evOp C rec_ rd o.op ev df h = some r) : OpPost E W0 C σ h rd' o a w r := by
  have dry : ∀ {v : Value}, (∀ c, o.op ≠ .defer c) → adry C.P (ev) o.op = some v → OpPost E W0 C σ h rd' o a w (.val v df h) := by
    intro v hd hv
    obtain ⟨v', h1, h2⟩ := adry_sound (o := o) (ρ := a.eval) hev hv
    exact did_post hR0 hdl hd ⟨σ, v', w, .inl (h2 w), Ext.refl _ _, h1, hR0, Nat.le_refl _⟩
  have slow : evSlow C rec_ rd o.op (ev) df h = some r → OpPost E W0 C σ h rd' o a w r := by
    intro e
    unfold evSlow at e
    split at e
    · rename_i c ho
      split at e
      · split at e
        · rename_i v h' hv
          injection e with e; subst e
          exact did_post hR0 hdl (fun c' hc => by rw [ho] at hc; cases hc) (aop_sound hR0 hev (by rw [ho]; exact hv))
        · cases e
      · exact call_post ok hrec hR0 hdl hev ho e
    · rename_i c ho
      unfold evDefer at e
      split at e
      · cases e
      · cases rd' with
        | some l => exact hrd.elim
        | none =>
          split at e
          · cases e
          · rename_i as has
            have hv := evls_sound hev has
            have eargs : c.args.map a.eval = (c.args.toList.map a.eval).toArray := by apply Array.ext'; simp
            split at e
            · rename_i f hc
              split at e
              · rename_i g first captured hf
                injection e with e; subst e
                have hr := hev f _ hf
                cases hr' : a.eval f <;> rw [hr'] at hr <;> (try (cases hr; done))
                rename_i fn first' captured'
                cases hr with
                | lit q => simp [lit] at q
                | func ha hA hcc hC =>
                  intro next Q hn
                  refine ⟨fun f _ => FW_fn _ f, ?_⟩
                  have hsem : (o.semAt (FW none).round a.eval).run C.P w = .ok (.defer { target := .fn (.func g) captured', args := first' ++ (c.args.toList.map a.eval).toArray }) w := by
                    show (execOp a.eval o).run C.P w = _
                    simp only [execOp, ho, resolve, hc, hr', Deferred.ofValue, Sem.run_bind, Sem.run_pure, Result.andThen_ok, eargs]
                  rw [hsem]
                  refine hn σ undef w ({ target := .fn (.func g) captured', args := first' ++ (c.args.toList.map a.eval).toArray } :: a.defers) (Ext.refl _ _) (Nat.le_refl _) VR.undef hR0 ⟨⟨captured', _, rfl, ?_⟩, hdl⟩
                  have := (VL.of_array ha hA |>.append hv).append (VL.of_array hcc hC)
                  simpa using this
              · cases e
            · cases e
    · rename_i x ho
      split at e
      · rename_i t v hx
        injection e with e; subst e
        intro next Q hn
        refine ⟨fun f _ => FW_fn _ f, ?_⟩
        rw [sem_at (fun c' hc => by rw [ho] at hc; cases hc)]
        have hr := hev x _ hx
        cases hr' : a.eval x <;> rw [hr'] at hr <;> (try (cases hr; done))
        rename_i t' v'
        have hrun : (execOp a.eval o).run C.P w = .halt (.panic (.iface t' v')) w := by
          simp [execOp, ho, hr', Instr.panic]
        rw [hrun]
        exact hn σ _ w (Ext.refl _ _) (Nat.le_refl _) hr hR0
      · cases e
    · rename_i n1 n2 n3
      split at e
      · rename_i v h' hv
        injection e with e; subst e
        exact did_post hR0 hdl (fun c' hc => n2 c' hc) (aop_sound hR0 hev hv)
      · cases e
  unfold evOp at e
  have retv : ∀ {x : Option Value}, retV df h x = some r → ∃ v, x = some v ∧ r = .val v df h := by
    intro x hx
    cases x with
    | none => cases hx
    | some v => injection hx with hx; exact ⟨v, rfl, hx.symm⟩
  have withv : ∀ {x : Option Value} {k : Value → Option OpRes}, withV x k = some r → ∃ v, x = some v ∧ k v = some r := by
    intro x k hx
    cases x with
    | none => cases hx
    | some v => exact ⟨v, rfl, hx⟩
  have notDefer : ∀ op : Op, (∀ c, op ≠ .defer c) → o.op = op → ∀ c, o.op ≠ .defer c := fun op h1 h2 c hc => h1 c (h2 ▸ hc)
  cases ho : o.op <;> rw [ho] at e
  case move x =>
    obtain ⟨v, hv, rfl⟩ := retv e
    exact dry (fun c hc => by rw [ho] at hc; cases hc) (by rw [ho]; exact hv)
  case assign x =>
    obtain ⟨v, hv, rfl⟩ := retv e
    exact dry (fun c hc => by rw [ho] at hc; cases hc) (by rw [ho]; exact hv)
  case load t x =>
    obtain ⟨p, hp, e⟩ := withv e
    obtain ⟨v, hv, rfl⟩ := retv e
    obtain ⟨v', h1, h2⟩ := run_aload hR0 hv (hev x p hp)
    exact did_post hR0 hdl (fun c hc => by rw [ho] at hc; cases hc) ⟨σ, v', w, .inl (by simp [execOp, ho, h2]), Ext.refl _ _, h1, hR0, Nat.le_refl _⟩
  case binOp op t x y yt =>
    obtain ⟨p, hp, e⟩ := withv e
    obtain ⟨q, hq, e⟩ := withv e
    obtain ⟨v, hv, rfl⟩ := retv e
    refine dry (fun c hc => by rw [ho] at hc; cases hc) ?_
    rw [ho]
    simp only [adry, ev2, hp, hq]
    exact fastBin_eq hv
  case fieldAddr t x f =>
    obtain ⟨p, hp, e⟩ := withv e
    obtain ⟨v, hv, rfl⟩ := retv e
    refine dry (fun c hc => by rw [ho] at hc; cases hc) ?_
    rw [ho]
    simp only [adry, ev1, hp]
    exact fastFA_eq hv
  case indexAddr t x i =>
    obtain ⟨p, hp, e⟩ := withv e
    obtain ⟨q, hq, e⟩ := withv e
    obtain ⟨v, hv, rfl⟩ := retv e
    refine dry (fun c hc => by rw [ho] at hc; cases hc) ?_
    rw [ho]
    simp only [adry, ev2, hp, hq]
    exact fastIA_eq hv
  all_goals exact slow (by rw [ho]; exact e)

end
end Go.Ev

/- Ev: the evaluator is right: code, scopes, calls. -/
namespace Go.Ev
noncomputable section
set_option linter.unusedVariables false
set_option linter.unusedSimpArgs false
variable {E : Nat → Option Value} {W0 : World} {C : Ctx} {rec_ : Task → Option Res}

theorem tval_sound {σ : Emb} {nt : Nat} {tm : Trie Value} {tmps : Array Value} (s : TR E σ nt tm tmps) {t : Nat} {v : Value} (e : tval tm t = some v) : VR E σ v (tmps.getD t undef) := by
  have := s.2 t
  unfold tval at e
  cases hg : tm.get t with
  | none => rw [hg] at e this; simp only [] at e; injection e with e; subst e; exact this
  | some v' => rw [hg] at e this; simp only [] at e; injection e with e; subst e; exact this

theorem want_sound {σ : Emb} {nt : Nat} {tm : Trie Value} {tmps : Array Value} (s : TR E σ nt tm tmps) {ops : Array Oper} {o : Oper} {b : Bool} (e : want ops (tval tm) o = some b) : Region.wanted o (yielded ops tmps) = b := by
  unfold want at e
  unfold Region.wanted
  split at e
  · rename_i hg; injection e with e; subst e; rw [hg]
  · rename_i j bw hg
    rw [hg]
    simp only []
    split at e
    · rename_i hd
      injection e with e; subst e
      simp [yielded, hd]
    · rename_i t hd
      split at e
      · rename_i b' ht
        have hv := (tval_sound s ht).bool_inv
        have hy : yielded ops tmps j = some b' := by
          simp only [yielded, hd, Option.bind_some]
          have : tmps[t]? = some (.bool b') := by
            cases hx : tmps[t]? with
            | none => simp [hx, undef] at hv
            | some u => simp [hx] at hv; rw [hv]
          rw [this]
        rw [hy]
        cases b' <;> cases bw <;> simp at e <;> subst e <;> rfl
      · rename_i vs ht
        injection e with e; subst e
        have hv := tval_sound s ht
        have hy : yielded ops tmps j = none := by
          simp only [yielded, hd, Option.bind_some]
          cases hx : tmps[t]? with
          | none => rfl
          | some u =>
            have : tmps.getD t undef = u := by simp [hx]
            rw [this] at hv
            cases hv with
            | lit q => simp [lit] at q
            | tuple _ _ => rfl
        rw [hy]; cases bw <;> rfl
      · cases e

theorem Post.trans {σ σ1 : Emb} {nt : Nat} {h h1 h' : AH} {ex : Ex} {tm' : Trie Value} {df' : List ADef} (hx : Ext h.next σ σ1) (hle : h.next ≤ h1.next) {e : Exit} {a : Act} {w : World}
    (p : Post E W0 C σ1 nt h1 ex tm' df' h' e a w) : Post E W0 C σ nt h ex tm' df' h' e a w := by
  obtain ⟨σ', h1', h2, h3, h4⟩ := p
  exact ⟨σ', Ext.trans hle hx h1', Nat.le_trans hle h2, h3, h4⟩

theorem RD.mono {σ σ' : Emb} {rd rd' : Option Nat} (h : Le σ σ') (k : RD σ rd rd') : RD σ' rd rd' := by
  cases rd <;> cases rd' <;> first | exact k | exact (h _ _ k).1

theorem wpOpIn_weaken {F : Fence} {n : Nat} {P : Program} {o : Oper} {a : Act} {w : World} {K K' : Act → World → Prop} {Q Q' : Exit → Act → World → Prop} (h : ∀ a w, K a w → K' a w) (hq : ∀ e a w, Q e a w → Q' e a w)
    (hh : o.wpIn F n P a w K Q) : o.wpIn F n P a w K' Q' := by
  unfold Oper.wpIn at *
  refine ⟨hh.1, ?_⟩
  replace hh := hh.2
  generalize (o.semAt F.round a.eval).run P w = r at *
  cases r with
  | ok n w' =>
    cases n <;> simp only [Oper.uponIn] at hh ⊢ <;>
      first
        | exact h _ _ hh
        | exact ⟨hh.1, hh.2.mono (fun e w'' he => by cases e <;> first | exact h _ _ he | exact hq _ _ _ he | (obtain ⟨a0, w0, q⟩ := he; exact ⟨a0, w0, hq _ _ _ q⟩))⟩
        | exact ⟨hh.1, hh.2.mono (fun _ _ he => h _ _ he)⟩
  | halt x w' => cases x <;> simp only [Oper.uponIn] at hh ⊢ <;> exact hq _ _ _ hh
theorem wpOpsIn_mono {F : Fence} {n : Nat} {P : Program} {ops : Array Oper} {Q Q' : Exit → Act → World → Prop} : ∀ (l : List Nat) {a : Act} {w : World}, wpOpsIn F n P ops Q l a w → (∀ e a w, Q e a w → Q' e a w) → wpOpsIn F n P ops Q' l a w := by
  intro l
  induction l with
  | nil => intro a w h hq; exact hq _ _ _ h
  | cons i l ih =>
    intro a w h hq
    simp only [wpOpsIn] at h ⊢
    split
    · rename_i ho; rw [ho] at h; exact ih h hq
    · rename_i o ho
      rw [ho] at h
      simp only [] at h
      split
      · rename_i hw; rw [if_pos hw] at h; exact wpOpIn_weaken (fun a w k => ih k hq) hq h
      · rename_i hw; rw [if_neg hw] at h; exact ⟨h.1, ih h.2 hq⟩
theorem evOps_code {rd : Option Nat} {nt : Nat} {ops : Array Oper} : ∀ {l : List Oper} {tm : Trie Value} {df : List ADef} {h : AH} {r : Res}, evOps C rec_ rd nt ops l tm df h = some r → match r with | .code .. => True | _ => False := by
  intro l
  induction l with
  | nil => intro tm df h r e; rw [evOps_nil] at e; injection e with e; subst e; trivial
  | cons o l ih =>
    intro tm df h r e
    rw [evOps_cons] at e
    split at e
    · cases e
    · split at e
      · cases e
      · exact ih e
    · split at e
      · cases e
      · injection e with e; subst e; trivial
      · split at e
        · cases e
        · exact ih e

theorem evOps_sound (ok : COK E W0 C) (hrec : ∀ t r, rec_ t = some r → TaskOK E W0 C t r) {nt : Nat} {rd rd' : Option Nat} {ops : Array Oper} : ∀ (l : List Oper) (i : Nat), ops.toList.drop i = l →
    ∀ {σ : Emb} {tm : Trie Value} {df : List ADef} {h : AH} {a : Act} {w : World} {r : Res}, SR E W0 C σ nt tm df h a w → RD σ rd rd' → evOps C rec_ rd nt ops l tm df h = some r →
    ∃ ex tm' df' h', r = .code ex tm' df' h' ∧ wpOpsIn (FW rd') 0 C.P ops (Post E W0 C σ nt h ex tm' df' h') (List.range' i l.length) a w := by
  intro l
  induction l with
  | nil =>
    intro i hi σ tm df h a w r s hrd e
    rw [evOps_nil] at e
    injection e with e; subst e
    exact ⟨.normal, tm, df, h, rfl, σ, Ext.refl _ _, Nat.le_refl _, trivial, s⟩
  | cons o l ih =>
    intro i hi σ tm df h a w r s hrd e
    have ho : ops[i]? = some o := by
      have : (ops.toList.drop i)[0]? = some o := by rw [hi]; rfl
      simpa using this
    have hl : ops.toList.drop (i + 1) = l := by
      rw [← List.drop_drop, hi]; rfl
    rw [evOps_cons] at e
    simp only [List.length_cons, List.range'_succ, wpOpsIn, ho]
    split at e
    · cases e
    · rename_i hw
      have hw := want_sound s.tr hw
      split at e
      · cases e
      · rename_i tm' ht
        have s' : SR E W0 C σ nt tm' df h (a.put o.dst undef) w := ⟨s.tr.put VR.undef ht, by cases ho2 : o.dst <;> simpa [Act.put, ho2] using s.dl, s.hr⟩
        obtain ⟨ex, tm2, df2, h2, rfl, hwp⟩ := ih (i + 1) hl s' hrd e
        refine ⟨ex, tm2, df2, h2, rfl, ?_⟩
        rw [hw]
        exact ⟨fun f _ => FW_fn _ f, hwp⟩
    · rename_i hw
      have hw := want_sound s.tr hw
      split at e
      · cases e
      · rename_i v h1 hop
        injection e with e; subst e
        refine ⟨.panic v, tm, df, h1, rfl, ?_⟩
        rw [hw]
        refine evOp_sound ok hrec s.hr s.dl s.ev hrd hop _ _ fun σ' v' w' hx hle hv hR => ?_
        exact ⟨σ', hx, hle, ⟨v', rfl, hv⟩, s.tr.mono (Ext.le s.hr hx), s.dl.mono (Ext.le s.hr hx), hR⟩
      · rename_i v df1 h1 hop
        split at e
        · cases e
        · rename_i tm' ht
          -- what comes is known before the operation's own names are
          have key : ∀ σ' v' w' ds, Ext h.next σ σ' → h.next ≤ h1.next → VR E σ' v v' → HR E C.P C.G W0 σ' h1 w' → DL E σ' df1 ds →
              ∃ ex tm2 df2 h2, r = .code ex tm2 df2 h2 ∧ wpOpsIn (FW rd') 0 C.P ops (Post E W0 C σ nt h ex tm2 df2 h2) (List.range' (i + 1) l.length) ({ a with defers := ds }.put o.dst v') w' := by
            intro σ' v' w' ds hx hle hv hR hds
            have s' : SR E W0 C σ' nt tm' df1 h1 ({ a with defers := ds }.put o.dst v') w' :=
              ⟨TR.put (a := { a with defers := ds }) (s.tr.mono (Ext.le s.hr hx)) hv ht, by cases ho2 : o.dst <;> simpa [Act.put, ho2] using hds, hR⟩
            obtain ⟨ex, tm2, df2, h2, hr, hwp⟩ := ih (i + 1) hl s' (hrd.mono (Ext.le s.hr hx)) e
            exact ⟨ex, tm2, df2, h2, hr, wpOpsIn_mono _ hwp fun e a w p => p.trans hx hle⟩
          cases r with
          | code ex tm2 df2 h2 =>
            refine ⟨ex, tm2, df2, h2, rfl, ?_⟩
            rw [hw]
            refine evOp_sound ok hrec s.hr s.dl s.ev hrd hop _ _ fun σ' v' w' ds hx hle hv hR hds => ?_
            obtain ⟨ex', tm3, df3, h3, hr, hwp⟩ := key σ' v' w' ds hx hle hv hR hds
            injection hr with e1 e2 e3 e4; subst e1 e2 e3 e4
            exact hwp
          | ret v2 h2 => exact (evOps_code e).elim
          | pan v2 h2 => exact (evOps_code e).elim

end
end Go.Ev

/- Ev: the evaluator is right: code. -/
namespace Go.Ev
noncomputable section
set_option linter.unusedVariables false
set_option linter.unusedSimpArgs false
variable {E : Nat → Option Value} {W0 : World} {C : Ctx} {rec_ : Task → Option Res}

theorem onCode_some {r : Option Res} {k : Ex → Trie Value → List ADef → AH → Option Res} {x : Res} (h : onCode r k = some x) : ∃ ex tm df h', r = some (.code ex tm df h') ∧ k ex tm df h' = some x := by
  cases r with
  | none => cases h
  | some s => cases s with
    | code ex tm df h' => exact ⟨ex, tm, df, h', rfl, h⟩
    | ret v h' => cases h
    | pan v h' => cases h
theorem ifNormal_some {r n : Option Res} {ex : Ex} {x : Res} (h : ifNormal r n ex = some x) : (ex = .normal ∧ n = some x) ∨ (ex ≠ .normal ∧ r = some x) := by
  cases ex <;> first | exact .inl ⟨rfl, h⟩ | exact .inr ⟨(by intro hh; cases hh), h⟩
theorem isExit_some {id : Nat} {r n : Option Res} {ex : Ex} {x : Res} (h : isExit id r n ex = some x) : (ex = .exit id ∧ n = some x) ∨ (ex ≠ .exit id ∧ r = some x) := by
  cases ex with
  | exit id' =>
    have h' : @Bool.rec (fun _ => Option Res) r n (Nat.beq id' id) = some x := h
    generalize hb : Nat.beq id' id = b at h'
    cases b with
    | true => exact .inl ⟨by rw [Trie.beq_true hb], h'⟩
    | false => exact .inr ⟨fun hh => Trie.beq_false hb (by injection hh), h'⟩
  | _ => exact .inr ⟨(by intro hh; cases hh), h⟩
theorem condK_some {v : Option Value} {a b : Option Res} {x : Res} (h : condK v a b = some x) : (v = some (.bool true) ∧ a = some x) ∨ (v = some (.bool false) ∧ b = some x) := by
  unfold condK at h
  split at h
  · rename_i t
    cases t with
    | true => exact .inl ⟨rfl, h⟩
    | false => exact .inr ⟨rfl, h⟩
  · cases h
theorem ExR.normal {σ : Emb} {e : Exit} (h : ExR E σ .normal e) : e = .normal := by cases e <;> first | rfl | exact h.elim
theorem ExR.not_normal {σ : Emb} {ex : Ex} {e : Exit} (h : ExR E σ ex e) (hn : ex ≠ .normal) : e ≠ .normal := by
  intro he; subst he; cases ex <;> first | exact hn rfl | exact h.elim
theorem then_of_not {next : Act → World → Prop} {Q : Exit → Act → World → Prop} {e : Exit} {a : Act} {w : World} (he : e ≠ .normal) (h : Q e a w) : Exit.then next Q e a w := by
  cases e <;> first | exact absurd rfl he | exact h

section
variable {P : Program} {F : Fence} {Q : Exit → Act → World → Prop}
theorem iter_of {body : Code} {a : Act} {w : World} (h : body.wpIn F 0 C.P (Exit.then (IterWp C F body Q) Q) a w) : IterWp C F body Q a w ∧ (Code.loop body).wpIn F 0 C.P Q a w := by
  have go : ∀ (b : Frame) (k : List Item) (cs : List Frame), b.roundOf = F.round → F.fn b.fn → F.room (cs.length + 1 + 0) →
      ∃ e a' w', Q e a' w' ∧ ArrivesIn (Machine.fenced C.P F) C.P (lone (b.atR a (.code body :: .inLoop body :: k)) cs w) b k cs e a' w' := by
    intro b k cs hro hb hr
    obtain ⟨e, a₁, w₁, hq, harr⟩ := h b (.inLoop body :: k) cs hro hb hr
    cases e with
    | normal =>
      obtain ⟨e₂, a₂, w₂, hq₂, harr₂⟩ := hq b k cs hro hb hr
      exact ⟨e₂, a₂, w₂, hq₂, .of_steps harr harr₂⟩
    | exit id => exact ⟨_, a₁, w₁, hq, .pass (x := .inLoop body) rfl (fun _ _ => .inl (by simp)) harr⟩
    | goto l => exact ⟨_, a₁, w₁, hq, .pass (x := .inLoop body) rfl (fun _ _ => .inl (by simp)) harr⟩
    | ret => exact ⟨_, a₁, w₁, hq, .pass (x := .inLoop body) rfl (fun _ _ => .inl (by simp)) harr⟩
    | panic ch => exact ⟨_, a₁, w₁, hq, .pass (x := .inLoop body) rfl (fun _ _ => .inl (by simp)) harr⟩
    | outgrown => exact ⟨_, a₁, w₁, hq, .pass (x := .inLoop body) rfl (fun _ _ => .inl (by simp)) harr⟩
  constructor
  · intro b k cs hro hb hr
    obtain ⟨e, a', w', hq, harr⟩ := go b k cs hro hb hr
    exact ⟨e, a', w', hq, .of_steps (.one (fenced_calm (n := 0) hb hr rfl) stepR_inLoop) harr⟩
  · intro b k cs hro hb hr
    obtain ⟨e, a', w', hq, harr⟩ := go b k cs hro hb hr
    exact ⟨e, a', w', hq, .of_steps (.one (fenced_calm (n := 0) hb hr rfl) stepR_loop) harr⟩

theorem stepR_scope {b : Frame} {a : Act} {k : List Item} {cs : List Frame} {w : World} {c : Code} : step P (lone (b.atR a (.code (.scope c) :: k)) cs w) = .next (lone (b.atR a (.code c :: .inScope c :: k)) cs w) :=
  step_lone_go (by simp [stepG, stepG.exec, Frame.atR])
theorem stepR_inScope {b : Frame} {a : Act} {k : List Item} {cs : List Frame} {w : World} {c : Code} : step P (lone (b.atR a (.inScope c :: k)) cs w) = .next (lone (b.atR a k) cs w) :=
  step_lone_go (by simp [stepG, stepG.exec, Frame.atR])

def Exit.inScope (body : Code) (again : Code → Act → World → Prop) (Q : Exit → Act → World → Prop) : Exit → Act → World → Prop
  | .goto l, a, w => match findLabel body l with
    | some rest => again rest a w
    | none => Q (.goto l) a w
  | e, a, w => Q e a w
theorem scope_of {body c : Code} {a : Act} {w : World} (h : c.wpIn F 0 C.P (Exit.inScope body (fun rest a w => ScopeWp C F body rest Q a w) Q) a w) : ScopeWp C F body c Q a w := by
  intro b k cs hro hb hr
  obtain ⟨e, a₁, w₁, hq, harr⟩ := h b (.inScope body :: k) cs hro hb hr
  cases e with
  | normal => exact ⟨.normal, a₁, w₁, hq, StepsIn.trans harr (.one (fenced_calm (n := 0) hb hr rfl) stepR_inScope)⟩
  | exit id =>
    have hx : exitTo id (.inScope body :: k) = exitTo id k := by simp [exitTo]
    exact ⟨.exit id, a₁, w₁, hq, fun k' hk => harr.1 k' (by rw [hx]; exact hk), fun hr' hk => harr.2 hr' (by rw [hx]; exact hk)⟩
  | goto l =>
    cases hf : findLabel body l with
    | some rest =>
      simp only [Exit.inScope, hf] at hq
      have hg : gotoIn l (.inScope body :: k) = some (.code rest :: .inScope body :: k) := by simp [gotoIn, hf]
      obtain ⟨e₂, a₂, w₂, hq₂, harr₂⟩ := hq b k cs hro hb hr
      exact ⟨e₂, a₂, w₂, hq₂, .of_steps (harr.1 _ hg) harr₂⟩
    | none =>
      simp only [Exit.inScope, hf] at hq
      have hx : gotoIn l (.inScope body :: k) = gotoIn l k := by simp [gotoIn, hf]
      exact ⟨.goto l, a₁, w₁, hq, fun k' hk => harr.1 k' (by rw [hx]; exact hk), fun hr' hk => harr.2 hr' (by rw [hx]; exact hk)⟩
  | ret => exact ⟨.ret, a₁, w₁, hq, harr⟩
  | panic ch => exact ⟨.panic ch, a₁, w₁, hq, harr⟩
  | outgrown => exact ⟨.outgrown, a₁, w₁, hq, harr⟩
theorem wpIn_scope_of {body : Code} {a : Act} {w : World} (h : ScopeWp C F body body Q a w) : (Code.scope body).wpIn F 0 C.P Q a w := by
  intro b k cs hro hb hr
  obtain ⟨e, a', w', hq, harr⟩ := h b k cs hro hb hr
  exact ⟨e, a', w', hq, .of_steps (.one (fenced_calm (n := 0) hb hr rfl) stepR_scope) harr⟩
end

theorem evScope_sound (hrec : ∀ t r, rec_ t = some r → TaskOK E W0 C t r) {rd : Option Nat} {nt : Nat} {body c : Code} {tm : Trie Value} {df : List ADef} {h : AH} {r : Res} (e : evScope C rec_ rd nt body c tm df h = some r) : TaskOK E W0 C (.scope rd nt body c tm df h) r := by
  unfold evScope at e
  split at e
  · rename_i l tm1 df1 h1 h0
    split at e
    · rename_i rest hf
      have k1 := hrec _ _ h0
      have k2 := hrec _ _ e
      cases r with
      | code ex tm' df' h' =>
        intro σ w a rd' s hrd
        refine scope_of (wpIn_mono (k1 σ w a rd' s hrd) fun e' a1 w1 p => ?_)
        obtain ⟨σ1, hx, hle, hex, s1⟩ := p
        cases e' <;> first | exact hex.elim | skip
        rename_i j
        have : l = j := hex
        subst this
        simp only [Exit.inScope, hf]
        intro b k cs hro hb hr
        obtain ⟨e2, a2, w2, hq, harr⟩ := k2 σ1 w1 a1 rd' s1 (hrd.mono (Ext.le s.hr hx)) b k cs hro hb hr
        exact ⟨e2, a2, w2, hq.trans hx hle, harr⟩
      | ret v h2 => exact k2.elim
      | pan v h2 => exact k2.elim
    · rename_i hf
      injection e with e; subst e
      have k1 := hrec _ _ h0
      intro σ w a rd' s hrd
      refine scope_of (wpIn_mono (k1 σ w a rd' s hrd) fun e' a1 w1 p => ?_)
      have p0 := p
      obtain ⟨σ1, hx, hle, hex, s1⟩ := p
      cases e' <;> first | exact hex.elim | skip
      rename_i j
      have : l = j := hex
      subst this
      simp only [Exit.inScope, hf]
      exact p0
  · rename_i hno
    have k1 := hrec _ _ e
    cases r with
    | code ex tm' df' h' =>
      intro σ w a rd' s hrd
      refine scope_of (wpIn_mono (k1 σ w a rd' s hrd) fun e' a1 w1 p => ?_)
      obtain ⟨σ1, hx, hle, hex, s1⟩ := p
      cases e' with
      | goto l =>
        cases ex <;> first | exact hex.elim | skip
        exact absurd e (by intro hh; exact hno _ _ _ _ hh)
      | _ => exact ⟨σ1, hx, hle, hex, s1⟩
    | ret v h2 => exact k1.elim
    | pan v h2 => exact k1.elim

theorem loop_sound (hrec : ∀ t r, rec_ t = some r → TaskOK E W0 C t r) {rd : Option Nat} {nt : Nat} {b : Code} {tm : Trie Value} {df : List ADef} {h : AH} {r : Res} (e : loopK rec_ rd nt b (rec_ (.code rd nt b tm df h)) = some r) :
    TaskOK E W0 C (.iter rd nt b tm df h) r ∧ TaskOK E W0 C (.code rd nt (.loop b) tm df h) r := by
  obtain ⟨ex, tm1, df1, h1, h0, e⟩ := onCode_some e
  have k1 := hrec _ _ h0
  rcases ifNormal_some e with ⟨rfl, e⟩ | ⟨hne, e⟩
  · have k2 := hrec _ _ e
    cases r with
    | code ex tm' df' h' =>
      have key : ∀ σ w a rd', SR E W0 C σ nt tm df h a w → RD σ rd rd' → b.wpIn (FW rd') 0 C.P (Exit.then (IterWp C (FW rd') b (Post E W0 C σ nt h ex tm' df' h')) (Post E W0 C σ nt h ex tm' df' h')) a w := by
        intro σ w a rd' s hrd
        refine wpIn_mono (k1 σ w a rd' s hrd) fun e' a1 w1 p => ?_
        obtain ⟨σ1, hx, hle, hex, s1⟩ := p
        obtain rfl := hex.normal
        intro b k cs hro hb hr
        obtain ⟨e2, a2, w2, hq, harr⟩ := k2 σ1 w1 a1 rd' s1 (hrd.mono (Ext.le s.hr hx)) b k cs hro hb hr
        exact ⟨e2, a2, w2, hq.trans hx hle, harr⟩
      exact ⟨fun σ w a rd' s hrd => (iter_of (key σ w a rd' s hrd)).1, fun σ w a rd' s hrd => (iter_of (key σ w a rd' s hrd)).2⟩
    | ret v h2 => exact k2.elim
    | pan v h2 => exact k2.elim
  · rw [h0] at e; injection e with e; subst e
    have key : ∀ σ w a rd', SR E W0 C σ nt tm df h a w → RD σ rd rd' → b.wpIn (FW rd') 0 C.P (Exit.then (IterWp C (FW rd') b (Post E W0 C σ nt h ex tm1 df1 h1)) (Post E W0 C σ nt h ex tm1 df1 h1)) a w := by
      intro σ w a rd' s hrd
      refine wpIn_mono (k1 σ w a rd' s hrd) fun e' a1 w1 p => ?_
      have p0 := p
      obtain ⟨σ1, hx, hle, hex, s1⟩ := p
      exact then_of_not (hex.not_normal hne) p0
    exact ⟨fun σ w a rd' s hrd => (iter_of (key σ w a rd' s hrd)).1, fun σ w a rd' s hrd => (iter_of (key σ w a rd' s hrd)).2⟩

end
end Go.Ev

/- Ev: the evaluator is right: answers, deferred calls, functions. -/
namespace Go.Ev
noncomputable section
set_option linter.unusedVariables false
set_option linter.unusedSimpArgs false
variable {E : Nat → Option Value} {W0 : World} {C : Ctx} {rec_ : Task → Option Res}

def resOf (tmps : Array Value) : ResultVar → Sem Value
  | .tmp t => pure (tmps.getD t undef)
  | .cell a t => do loadVar t (← asAddr (tmps.getD a undef))
theorem results_eq (fn : Func) (tmps : Array Value) : results fn tmps = (do let vs ← fn.results.mapM (resOf tmps); pure (if h : vs.size = 1 then vs[0] else .tuple vs)) := by
  unfold results
  congr 1
theorem evResult_sound {σ : Emb} {nt : Nat} {tm : Trie Value} {tmps : Array Value} {h : AH} {w : World} (t : TR E σ nt tm tmps) (hR : HR E C.P C.G W0 σ h w) {r : ResultVar} {v : Value} (e : evResult C.P h tm r = some v) :
    ∃ v', VR E σ v v' ∧ (resOf tmps r).run C.P w = .ok v' w := by
  cases r with
  | tmp i => exact ⟨_, tval_sound t e, rfl⟩
  | cell a ty =>
    simp only [evResult] at e
    split at e
    · cases e
    · rename_i x hx
      have hv := tval_sound t hx
      obtain ⟨v', h1, h2⟩ := run_aload hR e hv
      refine ⟨v', h1, ?_⟩
      simp only [resOf]
      rw [← h2]
      unfold aload at e
      split at e
      · generalize hy : tmps.getD a undef = y at hv
        cases hv with
        | lit q => simp [lit] at q
        | ptr hs => simp only [Instr.loadAt, Instr.sureAddr, asAddr, Sem.run_bind, Sem.run_pure, Result.andThen_ok]
      · cases e
theorem evResults1_sound {σ : Emb} {nt : Nat} {tm : Trie Value} {tmps : Array Value} {h : AH} {w : World} (t : TR E σ nt tm tmps) (hR : HR E C.P C.G W0 σ h w) : ∀ {rs : List ResultVar} {l : List Value}, evResults1 C.P h tm rs = some l →
    ∃ l', VL E σ l l' ∧ (rs.mapM (resOf tmps)).run C.P w = .ok l' w := by
  intro rs
  induction rs with
  | nil => intro l e; simp only [evResults1] at e; injection e with e; subst e; exact ⟨[], VL.nil, by simp⟩
  | cons r rs ih =>
    intro l e
    simp only [evResults1] at e
    split at e
    · cases e
    · rename_i v hv
      split at e
      · cases e
      · rename_i l1 hl
        injection e with e; subst e
        obtain ⟨v', h1, h2⟩ := evResult_sound t hR hv
        obtain ⟨l', h3, h4⟩ := ih hl
        refine ⟨v' :: l', VL.cons h1 h3, ?_⟩
        simp only [List.mapM_cons, Sem.run_bind, h2, Result.andThen_ok, h4, Sem.run_pure]
theorem evResults_sound {σ : Emb} {nt : Nat} {tm : Trie Value} {tmps : Array Value} {h : AH} {w : World} (t : TR E σ nt tm tmps) (hR : HR E C.P C.G W0 σ h w) {fn : Func} {v : Value} (e : evResults C.P fn h tm = some v) :
    ∃ v', VR E σ v v' ∧ (results fn tmps).run C.P w = .ok v' w := by
  unfold evResults at e
  rw [results_eq]
  split at e
  · cases e
  · rename_i x hx
    injection e with e; subst e
    obtain ⟨l', h1, h2⟩ := evResults1_sound t hR hx
    obtain ⟨x', r, rfl, hv, hr⟩ := h1.uncons
    obtain rfl := hr.of_nil
    refine ⟨x', hv, ?_⟩
    simp only [Sem.run_bind, Array.mapM_eq_mapM_toList, Sem.run_map, h2, Result.andThen_ok, Sem.run_pure]
    simp
  · rename_i l hne hx
    injection e with e; subst e
    obtain ⟨l', h1, h2⟩ := evResults1_sound t hR hx
    refine ⟨_, h1.tuple, ?_⟩
    have hs : ¬ (l'.length = 1) := by
      rw [← h1.1]
      intro hh
      obtain ⟨x, hx'⟩ := List.length_eq_one_iff.1 hh
      exact hne x hx'
    simp only [Sem.run_bind, Array.mapM_eq_mapM_toList, Sem.run_map, h2, Result.andThen_ok, Sem.run_pure]
    simp [hs]

/-- a caller's mode, while its deferred calls are made -/
def MR (E : Nat → Option Value) (σ : Emb) : Option (Value × Bool) → FrameMode → Prop
  | none, .returning => True
  | some (v, b), .panicking ch => ∃ v', ch = [{ v := v', recovered := b }] ∧ VR E σ v v'
  | _, _ => False
theorem MR.mono {σ σ' : Emb} (hσ : Le σ σ') {pn : Option (Value × Bool)} {u : FrameMode} (h : MR E σ pn u) : MR E σ' pn u := by
  cases pn with
  | none => cases u <;> exact h
  | some p =>
    obtain ⟨v, b⟩ := p
    cases u with
    | panicking ch => obtain ⟨v', e, hv⟩ := h; exact ⟨v', e, hv.mono hσ⟩
    | run => exact h.elim
    | returning => exact h.elim
theorem MR.settle {σ : Emb} {pn : Option (Value × Bool)} {u : FrameMode} (h : MR E σ pn u) : MR E σ (settleA pn) (settle u) := by
  cases pn with
  | none => cases u <;> first | exact h.elim | trivial
  | some p =>
    obtain ⟨v, b⟩ := p
    cases u with
    | panicking ch =>
      obtain ⟨v', e, hv⟩ := h
      subst e
      cases b with
      | true => trivial
      | false => exact ⟨v', rfl, hv⟩
    | run => exact h.elim
    | returning => exact h.elim
theorem MR.not_run {σ : Emb} {pn : Option (Value × Bool)} {u : FrameMode} (h : MR E σ pn u) : u ≠ .run := by
  intro hu; subst hu; cases pn <;> exact h.elim

theorem startTm_sound {σ : Emb} {args args' : List Value} {tm : Trie Value} (hv : VL E σ args args') (e : startTm args = some tm) (n : Nat) :
    TR E σ (args.length + (n - args.length)) tm (args'.toArray ++ Array.replicate (n - args'.toArray.size) undef) := by
  refine ⟨by simp [hv.1], fun t => ?_⟩
  unfold startTm at e
  rw [Trie.get_puts _ _ _ _ _ e t]
  simp only [Nat.zero_le, Nat.zero_add, true_and, Nat.sub_zero]
  by_cases ht : t < args.length
  · rw [if_pos ht, List.getElem?_eq_getElem ht]
    obtain ⟨v', h1, h2⟩ := hv.get (List.getElem?_eq_getElem ht)
    have ht' : t < args'.length := hv.1 ▸ ht
    have : (args'.toArray ++ Array.replicate (n - args'.toArray.size) undef).getD t undef = v' := by
      have h3 : (args'.toArray ++ Array.replicate (n - args'.toArray.size) undef)[t]? = some v' := by
        rw [Array.getElem?_append_left (by simpa using ht')]; simpa using h1
      simp only [Array.getD_eq_getD_getElem?, h3, Option.getD_some]
    rw [this]; exact h2
  · rw [if_neg ht, Trie.get_nil]
    have ht' : ¬ (t < args'.length) := hv.1 ▸ ht
    have : (args'.toArray ++ Array.replicate (n - args'.toArray.size) undef).getD t undef = undef := by
      by_cases h4 : t < args'.length + (n - args'.length)
      · have h3 : (args'.toArray ++ Array.replicate (n - args'.toArray.size) undef)[t]? = some undef := by
          rw [Array.getElem?_append_right (by simp; omega), Array.getElem?_replicate, if_pos (by simp; omega)]
        simp only [Array.getD_eq_getD_getElem?, h3, Option.getD_some]
      · have h3 : (args'.toArray ++ Array.replicate (n - args'.toArray.size) undef)[t]? = none := by
          rw [Array.getElem?_eq_none]; simp; omega
        simp only [Array.getD_eq_getD_getElem?, h3, Option.getD_none]
    rw [this]; exact VR.undef

theorem isRecover_run {o : Oper} {ρ : Operand → Value} {P : Program} {w : World} (h : isRecover o.op = true) : (execOp ρ o).run P w = .ok .recover w := by
  unfold isRecover at h
  split at h
  · rename_i c ho
    split at h
    · rename_i hc
      simp [execOp, ho, resolve, hc, invoke, builtin]
    · cases h
  · cases h

theorem wpOpsSIn_mono {F : Fence} {n : Nat} {P : Program} {ops : Array Oper} {Q Q' : Exit → Act → List Frame → World → Prop} : ∀ (l : List Nat) {a : Act} {cs : List Frame} {w : World}, wpOpsSIn F n P ops Q l a cs w → (∀ e a cs w, Q e a cs w → Q' e a cs w) → wpOpsSIn F n P ops Q' l a cs w := by
  intro l
  induction l with
  | nil => intro a cs w h hq; exact hq _ _ _ _ h
  | cons i l ih =>
    intro a cs w h hq
    simp only [wpOpsSIn] at h ⊢
    split
    · rename_i ho; rw [ho] at h; exact ih h hq
    · rename_i o ho
      rw [ho] at h
      simp only [] at h
      refine ⟨h.1, ?_⟩
      replace h := h.2
      split
      · rename_i hw
        rw [if_pos hw] at h
        split
        · rename_i w' hr
          rw [hr] at h; simp only [] at h
          split
          · rename_i v cs' hrec; rw [hrec] at h; exact ih h hq
          · rename_i hrec; rw [hrec] at h; exact ih h hq
        · rename_i v w' hr; rw [hr] at h; exact ih h hq
        · rename_i w' hr; rw [hr] at h; exact ih h hq
        · rename_i v w' hr; rw [hr] at h; exact hq _ _ _ _ h
        · rename_i h1 h2 h3 h4
          exfalso
          split at h
          · rename_i w' hr; exact h1 _ hr
          · rename_i v w' hr; exact h2 _ _ hr
          · rename_i w' hr; exact h3 _ hr
          · rename_i v w' hr; exact h4 _ _ hr
          · exact h
      · rename_i hw; rw [if_neg hw] at h; exact ih h hq

theorem evOpsS_sound {nt : Nat} {ops : Array Oper} {c₀ : Frame} {cs : List Frame} : ∀ (l : List Oper) (i : Nat), ops.toList.drop i = l →
    ∀ {σ : Emb} {tm : Trie Value} {h : AH} {pn : Option (Value × Bool)} {u : FrameMode} {a : Act} {w : World} {tm' : Trie Value} {h' : AH} {pn' : Option (Value × Bool)},
    TR E σ nt tm a.tmps → a.defers = [] → HR E C.P C.G W0 σ h w → MR E σ pn u → evOpsS C nt ops l tm h pn = some (tm', h', pn') →
    wpOpsSIn Fence.wide 0 C.P ops (fun e a' cs' w' => e = .normal ∧ ∃ σ' u', cs' = { c₀ with mode := u' } :: cs ∧ MR E σ' pn' u' ∧ Ext h.next σ σ' ∧ h.next ≤ h'.next ∧ TR E σ' nt tm' a'.tmps ∧ a'.defers = [] ∧ HR E C.P C.G W0 σ' h' w')
      (List.range' i l.length) a ({ c₀ with mode := u } :: cs) w := by
  intro l
  induction l with
  | nil =>
    intro i hi σ tm h pn u a w tm' h' pn' ht hd hR hm e
    simp only [evOpsS] at e
    injection e with e; injection e with e1 e2; injection e2 with e2 e3; subst e1 e2 e3
    exact ⟨rfl, σ, u, rfl, hm, Ext.refl _ _, Nat.le_refl _, ht, hd, hR⟩
  | cons o l ih =>
    intro i hi σ tm h pn u a w tm' h' pn' ht hd hR hm e
    have ho : ops[i]? = some o := by
      have : (ops.toList.drop i)[0]? = some o := by rw [hi]; rfl
      simpa using this
    have hl : ops.toList.drop (i + 1) = l := by
      rw [← List.drop_drop, hi]; rfl
    have put_d : ∀ v', (a.put o.dst v').defers = [] := fun v' => by cases h2 : o.dst <;> simpa [Act.put, h2] using hd
    have hev : ∀ x u, evl C.G (tval tm) x = some u → VR E σ u (a.eval x) := fun x u hx => evl_sound hR.glob (fun t v htv => tval_sound ht htv) (fun v => rfl) (fun g => rfl) (fun f => rfl) hx
    simp only [evOpsS] at e
    simp only [List.length_cons, List.range'_succ, wpOpsSIn, ho]
    refine ⟨fun f _ => trivial, ?_⟩
    split at e
    · cases e
    · rename_i hw
      rw [want_sound ht hw]
      split at e
      · cases e
      · rename_i tm1 htp
        simp only [Bool.false_eq_true, if_false]
        exact ih (i + 1) hl (ht.put VR.undef htp) (put_d _) hR hm e
    · rename_i hw
      rw [want_sound ht hw]
      simp only [if_true]
      split at e
      · rename_i hr
        rw [isRecover_run hr]
        simp only []
        split at e
        · rename_i v
          split at e
          · cases e
          · rename_i tm1 htp
            cases u with
            | panicking ch =>
              obtain ⟨v', hc, hv⟩ := hm
              subst hc
              simp only [recoverD]
              exact ih (i + 1) hl (ht.put hv htp) (put_d _) hR (u := .panicking [{ v := v', recovered := true }]) (show MR E σ (some (v, true)) _ from ⟨v', rfl, hv⟩) e
            | run => exact hm.elim
            | returning => exact hm.elim
        · rename_i hnp
          split at e
          · cases e
          · rename_i tm1 htp
            have hrec : recoverD ({ c₀ with mode := u } :: cs) = none := by
              cases pn with
              | none => cases u <;> first | exact hm.elim | rfl
              | some p =>
                obtain ⟨v, b⟩ := p
                cases b with
                | false => exact absurd rfl (hnp v)
                | true =>
                  cases u with
                  | panicking ch => obtain ⟨v', hc, hv⟩ := hm; subst hc; rfl
                  | run => exact hm.elim
                  | returning => exact hm.elim
            rw [hrec]
            exact ih (i + 1) hl (ht.put (.lit rfl) htp) (put_d _) hR hm e
      · split at e
        · cases e
        · rename_i v h1 hop
          split at e
          · cases e
          · rename_i tm1 htp
            obtain ⟨σ', v', w', hr, hx, hv, hR', hle⟩ := aop_sound (o := o) hR hev hop
            have hle' : Le σ σ' := Ext.le hR hx
            have step : wpOpsSIn Fence.wide 0 C.P ops (fun e a' cs' w' => e = .normal ∧ ∃ σ'' u', cs' = { c₀ with mode := u' } :: cs ∧ MR E σ'' pn' u' ∧ Ext h.next σ σ'' ∧ h.next ≤ h'.next ∧ TR E σ'' nt tm' a'.tmps ∧ a'.defers = [] ∧ HR E C.P C.G W0 σ'' h' w')
                (List.range' (i + 1) l.length) (a.put o.dst v') ({ c₀ with mode := u } :: cs) w' := by
              have := ih (i + 1) hl (TR.put (a := a) (ht.mono hle') hv htp) (put_d _) hR' (hm.mono hle') e
              refine wpOpsSIn_mono _ this fun e a' cs' w'' hp => ?_
              obtain ⟨he, σ'', u', h1', h2, h3, h4, h5, h6, h7⟩ := hp
              exact ⟨he, σ'', u', h1', h2, Ext.trans hle hx h3, Nat.le_trans hle h4, h5, h6, h7⟩
            rcases hr with hr | ⟨hr, e2⟩
            · rw [hr]; exact step
            · subst e2; rw [hr]; exact step

end
end Go.Ev

/- Ev: the evaluator is right: deferred calls, functions. -/
namespace Go.Ev
noncomputable section
set_option linter.unusedVariables false
set_option linter.unusedSimpArgs false
variable {E : Nat → Option Value} {W0 : World} {C : Ctx} {rec_ : Task → Option Res}

theorem DL.of_nil {σ : Emb} {m : List Deferred} (h : DL E σ [] m) : m = [] := by cases m with
  | nil => rfl
  | cons _ _ => exact h.elim

/-- the end of a deferred call's body -/
theorem finD_sound (hrec : ∀ t r, rec_ t = some r → TaskOK E W0 C t r) {fn : Func} {nt : Nat} {b : Code} {σ : Emb} {tm : Trie Value} {h h' : AH} {pn pn' : Option (Value × Bool)} {u : FrameMode} {a : Act} {w : World} {c₀ : Frame} {cs : List Frame}
    (e : finD C fn pn (rec_ (.code none nt b tm [] h)) = some (h', pn')) (ht : TR E σ nt tm a.tmps) (hd : a.defers = []) (hR : HR E C.P C.G W0 σ h w) (hm : MR E σ pn u) :
    b.wpSIn Fence.wide 0 C.P (bodyPostS C.P fn c₀ cs fun e u' w' => ∃ v, e = .returned v ∧ ∃ σ', Ext h.next σ σ' ∧ h.next ≤ h'.next ∧ HR E C.P C.G W0 σ' h' w' ∧ MR E σ' pn' u') a ({ c₀ with mode := u } :: cs) w := by
  unfold finD at e
  have s : SR E W0 C σ nt tm [] h a w := ⟨ht, by rw [hd]; trivial, hR⟩
  split at e
  · rename_i tm1 h1 h0
    split at e
    · rename_i v hv
      injection e with e; injection e with e1 e2; subst e1 e2
      refine wpSIn_of_wpIn rfl (wpIn_mono (hrec _ _ h0 σ w a none s trivial) fun e' a1 w1 p => ?_)
      obtain ⟨σ1, hx, hle, hex, s1⟩ := p
      obtain rfl := hex.normal
      obtain ⟨v', h3, h4⟩ := evResults_sound s1.tr s1.hr hv
      exact ⟨s1.dl.of_nil, u, rfl, v', h4, v', rfl, σ1, hx, hle, s1.hr, hm.mono (Ext.le hR hx)⟩
    · cases e
  · rename_i tm1 h1 h0
    split at e
    · rename_i v hv
      injection e with e; injection e with e1 e2; subst e1 e2
      refine wpSIn_of_wpIn rfl (wpIn_mono (hrec _ _ h0 σ w a none s trivial) fun e' a1 w1 p => ?_)
      obtain ⟨σ1, hx, hle, hex, s1⟩ := p
      cases e' <;> first | exact hex.elim | skip
      obtain ⟨v', h3, h4⟩ := evResults_sound s1.tr s1.hr hv
      exact ⟨s1.dl.of_nil, u, rfl, v', h4, v', rfl, σ1, hx, hle, s1.hr, hm.mono (Ext.le hR hx)⟩
    · cases e
  · cases e

theorem evDef_sound (ok : COK E W0 C) (hrec : ∀ t r, rec_ t = some r → TaskOK E W0 C t r) {g : FuncId} {args args' : List Value} {h h' : AH} {pn pn' : Option (Value × Bool)} {σ : Emb} {w : World} {u : FrameMode}
    (e : evDef C rec_ g args h pn = some (h', pn')) (hR : HR E C.P C.G W0 σ h w) (hv : VL E σ args args') (hm : MR E σ pn u) :
    (C.fns.get g).any (·.body.isSome) = true ∧ CallsDIn Fence.wide 0 C.P g args'.toArray u w (fun e u' w' => ∃ v, e = .returned v ∧ ∃ σ', Ext h.next σ σ' ∧ h.next ≤ h'.next ∧ HR E C.P C.G W0 σ' h' w' ∧ MR E σ' pn' u') := by
  unfold evDef at e
  split at e
  · cases e
  · rename_i fn hf
    split at e
    · cases e
    · rename_i c hb
      refine ⟨by rw [hf]; simp [hb], ?_⟩
      split at e
      · cases e
      · rename_i tm htm
        have ht := startTm_sound hv htm fn.ntmps
        split at e
        · rename_i id ops b
          split at e
          · cases e
          · rename_i tm1 h1 pn1 hops
            refine callsDIn_of_wpSIn (ok.fns g fn hf) hb trivial fun c₀ cs hmode => ?_
            have hc0 : c₀ = { c₀ with mode := u } := by subst hmode; rfl
            rw [hc0]
            refine wpSIn_seq (wpSIn_region ?_)
            have := evOpsS_sound (c₀ := c₀) (cs := cs) ops.toList 0 rfl (a := { tmps := args'.toArray ++ Array.replicate (fn.ntmps - args'.toArray.size) undef, defers := [] }) ht rfl hR hm hops
            rw [List.range_eq_range']
            have hsz : ops.toList.length = ops.size := by simp
            rw [hsz] at this
            refine wpOpsSIn_mono _ this fun e' a' cs' w' hp => ?_
            obtain ⟨rfl, σ1, u1, rfl, hm1, hx1, hle1, ht1, hd1, hR1⟩ := hp
            show b.wpSIn _ _ _ _ _ _ _
            have hfin := finD_sound (c₀ := c₀) (cs := cs) hrec e ht1 hd1 hR1 hm1
            intro fb k h1' h2' h3' h4'
            obtain ⟨e2, a2, cs2, w2, hlen, hq, harr⟩ := hfin fb k h1' h2' h3' h4'
            refine ⟨e2, a2, cs2, w2, hlen, ?_, harr⟩
            cases e2 with
            | normal =>
              obtain ⟨q1, u', q2, v, q3, v1, q4, σ', q5, q6, q7, q8⟩ := hq
              exact ⟨q1, u', q2, v, q3, v1, q4, σ', Ext.trans hle1 hx1 q5, Nat.le_trans hle1 q6, q7, q8⟩
            | ret =>
              obtain ⟨q1, u', q2, v, q3, v1, q4, σ', q5, q6, q7, q8⟩ := hq
              exact ⟨q1, u', q2, v, q3, v1, q4, σ', Ext.trans hle1 hx1 q5, Nat.le_trans hle1 q6, q7, q8⟩
            | panic ch => obtain ⟨_, _, _, v1, q4, _⟩ := hq; cases q4
            | exit id => exact hq.elim
            | goto l => exact hq.elim
            | outgrown => obtain ⟨_, v1, q4, _⟩ := hq; cases q4
        · refine callsDIn_of_wpSIn (ok.fns g fn hf) hb trivial fun c₀ cs hmode => ?_
          have hc0 : c₀ = { c₀ with mode := u } := by subst hmode; rfl
          have hfin := finD_sound (c₀ := c₀) (cs := cs) hrec e (a := { tmps := args'.toArray ++ Array.replicate (fn.ntmps - args'.toArray.size) undef, defers := [] }) ht rfl hR hm
          rw [← hc0] at hfin
          exact hfin

theorem HF.kill {P : Program} {G : Nat} {σ : Emb} {bg : Nat → Option AObj} {nx : Nat} {w w' : World} (hR : HF E P G W0 σ bg nx w) {b c : Nat} {o : AObj} {ob : Obj} (hG : G ≤ b) (hb : bg b = some o) (hs : σ b = some c)
    (hh : ∀ k, w'.heap[k]? = if k = c then some ob else w.heap[k]?) (hsz : w'.heap.size = w.heap.size) (q : Quiet w w' := by exact ⟨rfl, rfl⟩) : HF E P G W0 σ (upd bg b none) nx w' := by
  have hnew : W0.heap.size ≤ c := hR.new b _ c hb hs hG
  have hd := hR.drop b
  refine ⟨fun x d e => by rw [hsz]; exact hR.dom x d e, hd.inj, fun x o1 d g1 e1 => ?_, hR.glob, hd.new, ?_, q.1.trans hR.still.1, q.2.trans hR.still.2⟩
  · by_cases hx : x = b
    · subst hx; rw [upd_self] at g1; cases g1
    · rw [upd_ne hx] at g1
      have hdc : d ≠ c := fun e => hx (hR.inj x b c (by rw [g1]; rfl) (by rw [hb]; rfl) (e ▸ e1) hs)
      obtain ⟨y, h5, h6⟩ := hR.blk x o1 d g1 e1
      exact ⟨y, by rw [hh, if_neg hdc]; exact h5, h6⟩
  · rw [hsz]
    refine ⟨hR.old.1, fun k hk => ?_⟩
    rw [hh, if_neg (by omega)]
    exact hR.old.2 k hk

/-- what a function's end must be -/
def FnPost (E : Nat → Option Value) (W0 : World) (C : Ctx) (σ : Emb) (h : AH) : Res → Ending → World → Prop
  | .ret v h' => PostRet E W0 C σ h v h'
  | .pan v h' => PostPan E W0 C σ h v h'
  | _ => fun _ _ => False
theorem FnPost.trans {σ σ1 : Emb} {h h1 : AH} {r : Res} (hx : Ext h.next σ σ1) (hle : h.next ≤ h1.next) {e : Ending} {w : World} (p : FnPost E W0 C σ1 h1 r e w) : FnPost E W0 C σ h r e w := by
  cases r with
  | ret v h' => obtain ⟨σ', v', q1, q2, q3, q4, q5⟩ := p; exact ⟨σ', v', q1, Ext.trans hle hx q2, Nat.le_trans hle q3, q4, q5⟩
  | pan v h' => obtain ⟨σ', v', q1, q2, q3, q4, q5⟩ := p; exact ⟨σ', v', q1, Ext.trans hle hx q2, Nat.le_trans hle q3, q4, q5⟩
  | code _ _ _ _ => exact p.elim

theorem leavesIn_mono {F : Fence} {n : Nat} {P : Program} {fn : Func} {tmps : Array Value} {R R' : Ending → World → Prop} (hq : ∀ e w, R e w → R' e w) : ∀ {ds : List Deferred} {u : FrameMode} {w : World}, LeavesIn F n P fn tmps R ds u w → LeavesIn F n P fn tmps R' ds u w := by
  intro ds
  induction ds with
  | nil =>
    intro u w h
    cases u with
    | run => exact h
    | returning => obtain ⟨v, h1, h2⟩ := h; exact ⟨v, h1, hq _ _ h2⟩
    | panicking ch => exact hq _ _ h
  | cons d ds ih =>
    intro u w h
    obtain ⟨h1, h2, fv, cap, f, args, h3, h4, h5, h6⟩ := h
    refine ⟨h1, h2, fv, cap, f, args, h3, h4, h5, h6.mono fun e u' w' hh => ?_⟩
    cases e with
    | returned v => exact ih hh
    | panicked ch => exact ih hh
    | outgrown => exact hq _ _ hh
theorem leavesInM_mono {F : Fence} {n : Nat} {P : Program} {fn : Func} {tmps : Array Value} {R R' : Ending → World → Prop} (hq : ∀ e w, R e w → R' e w) : ∀ {ds : List Deferred} {u : FrameMode} {w : World}, LeavesInM F n P fn tmps R ds u w → LeavesInM F n P fn tmps R' ds u w := by
  intro ds
  induction ds with
  | nil => intro u w h; exact leavesIn_mono hq h
  | cons d ds ih =>
    intro u w h
    obtain ⟨h1, h2⟩ := h
    refine ⟨h1, ?_⟩
    rcases h2 with ⟨r, w', h3, h4, h5⟩ | ⟨h2, fv, cap, f, args, h3, h4, h5, h6⟩
    · exact .inl ⟨r, w', h3, h4, ih h5⟩
    · refine .inr ⟨h2, fv, cap, f, args, h3, h4, h5, h6.mono fun e u' w' hh => ?_⟩
      cases e with
      | returned v => exact ih hh
      | panicked ch => exact ih hh
      | outgrown => exact hq _ _ hh

theorem evDefs_sound (ok : COK E W0 C) (hrec : ∀ t r, rec_ t = some r → TaskOK E W0 C t r) {fn : Func} {nt : Nat} {tm : Trie Value} {tmps : Array Value} : ∀ (ds : List ADef) {pn : Option (Value × Bool)} {h : AH} {σ : Emb} {w : World} {u : FrameMode} {dfs : List Deferred} {r : Res},
    evDefs C rec_ fn tm ds pn h = some r → TR E σ nt tm tmps → DL E σ ds dfs → HR E C.P C.G W0 σ h w → MR E σ pn u → LeavesInM Fence.wide 0 C.P fn tmps (FnPost E W0 C σ h r) dfs u w := by
  intro ds
  induction ds with
  | nil =>
    intro pn h σ w u dfs r e ht hd hR hm
    obtain rfl := hd.of_nil
    cases pn with
    | none =>
      cases u <;> first | exact hm.elim | skip
      simp only [evDefs] at e
      split at e
      · rename_i v hv
        injection e with e; subst e
        obtain ⟨v', h1, h2⟩ := evResults_sound ht hR hv
        exact ⟨v', h2, σ, v', rfl, Ext.refl _ _, Nat.le_refl _, h1, hR⟩
      · cases e
    | some p =>
      obtain ⟨v, b⟩ := p
      cases u <;> first | exact hm.elim | skip
      rename_i ch
      obtain ⟨v', hc, hv⟩ := hm
      cases b with
      | true => simp only [evDefs] at e; cases e
      | false =>
        simp only [evDefs] at e
        injection e with e; subst e
        exact ⟨σ, v', by rw [hc], Ext.refl _ _, Nat.le_refl _, hv, hR⟩
  | cons d ds ih =>
    intro pn h σ w u dfs r e ht hd hR hm
    cases dfs with
    | nil => exact hd.elim
    | cons d' dfs =>
      obtain ⟨hd1, hd2⟩ := hd
      cases d with
      | mark b =>
        obtain ⟨b', hs, rfl⟩ := hd1
        simp only [evDefs] at e
        split at e
        · cases e
        · rename_i hG
          split at e
          · rename_i hb
            split at e
            · rename_i blks hbl
              obtain ⟨ob, h1, h2⟩ := hR.blk b _ b' hb hs
              have hlt := (hR.dom b b' hs).2
              cases h2 with
              | noDefers =>
                refine ⟨hm.not_run, .inl ⟨b', w.putObj b' (.deferred none), rfl, run_takeDeferred h1, ?_⟩⟩
                have hR' : HR E C.P C.G W0 σ { h with blks := blks } (w.putObj b' (.deferred none)) := by
                  show HF E C.P C.G W0 σ blks.get h.next _
                  rw [put_upd hbl]
                  refine HF.kill hR (ble_true hG) hb hs (ob := .deferred none) (fun k => ?_) (by simp [World.putObj])
                  by_cases hk : k = b'
                  · subst hk; rw [if_pos rfl]; exact World.putObj_heap_same hlt
                  · rw [if_neg hk]; exact World.putObj_heap_other hk
                have q := ih e ht hd2 hR' hm
                exact leavesInM_mono (fun e w p => FnPost.trans (h := h) (h1 := { h with blks := blks }) (Ext.refl _ _) (Nat.le_refl _) p) q
            · cases e
          · cases e
      | call g args =>
        obtain ⟨cap, args', rfl, hv⟩ := hd1
        simp only [evDefs] at e
        split at e
        · cases e
        · rename_i h1 pn1 hdef
          obtain ⟨hb, hc⟩ := evDef_sound ok hrec hdef hR hv hm
          refine ⟨hm.not_run, .inr ⟨nodepth (rd' := none), Fn.func g, cap, g, args' ++ cap, rfl, ?_, fun _ _ => trivial, ?_⟩⟩
          · show (callFunc g (args' ++ cap)).run C.P w = _
            exact run_callFunc ok hb _ w
          · have e0 : (args' ++ cap).toList.toArray = args' ++ cap := by simp
            rw [e0] at hc
            refine CallsDIn.mono hc fun e' u' w' hp => ?_
            obtain ⟨v, rfl, σ', hx, hle, hR', hm'⟩ := hp
            exact leavesInM_mono (fun e w p => p.trans hx hle) (ih e (ht.mono (Ext.le hR hx)) (hd2.mono (Ext.le hR hx)) hR' hm'.settle)

theorem evDefs_code {fn : Func} {tm : Trie Value} : ∀ {ds : List ADef} {pn : Option (Value × Bool)} {h : AH} {ex : Ex} {tm' : Trie Value} {df : List ADef} {h' : AH}, evDefs C rec_ fn tm ds pn h = some (.code ex tm' df h') → False := by
  intro ds
  induction ds with
  | nil =>
    intro pn h ex tm' df h' e
    cases pn with
    | none => simp only [evDefs] at e; split at e <;> cases e
    | some p => obtain ⟨v, b⟩ := p; cases b <;> simp only [evDefs] at e <;> cases e
  | cons d ds ih =>
    intro pn h ex tm' df h' e
    cases d with
    | mark b =>
      simp only [evDefs] at e
      split at e
      · cases e
      · split at e
        · split at e
          · exact ih e
          · cases e
        · cases e
    | call g args =>
      simp only [evDefs] at e
      split at e
      · cases e
      · exact ih e
theorem evFunc_sound (ok : COK E W0 C) (hrec : ∀ t r, rec_ t = some r → TaskOK E W0 C t r) {f : FuncId} {args : List Value} {h : AH} {r : Res} (e : evFunc C rec_ f args h = some r) : TaskOK E W0 C (.call f args h) r := by
  have key : ∀ σ w args', HR E C.P C.G W0 σ h w → VL E σ args args' → (C.fns.get f).any (·.body.isSome) = true ∧ CallsIn Fence.wide 0 C.P f args'.toArray w (FnPost E W0 C σ h r) := by
    intro σ w args' hR hv
    unfold evFunc at e
    split at e
    · cases e
    · rename_i fn hf
      split at e
      · cases e
      · rename_i c hb
        refine ⟨by rw [hf]; simp [hb], ?_⟩
        split at e
        · cases e
        · rename_i tm htm
          have ht := startTm_sound hv htm fn.ntmps
          have s : SR E W0 C σ (args.length + (fn.ntmps - args.length)) tm [] h { tmps := args'.toArray ++ Array.replicate (fn.ntmps - args'.toArray.size) undef, defers := [] } w := ⟨ht, trivial, hR⟩
          refine callsIn_of_wp_marks (ok.fns f fn hf) hb trivial ?_
          split at e
          · rename_i tm1 df1 h1 h0
            refine wpIn_mono (hrec _ _ h0 σ w _ none s trivial) fun e' a1 w1 p => ?_
            obtain ⟨σ1, hx, hle, hex, s1⟩ := p
            obtain rfl := hex.normal
            exact leavesInM_mono (fun e w p => p.trans hx hle) (evDefs_sound ok hrec df1 e s1.tr s1.dl s1.hr (u := .returning) trivial)
          · rename_i tm1 df1 h1 h0
            refine wpIn_mono (hrec _ _ h0 σ w _ none s trivial) fun e' a1 w1 p => ?_
            obtain ⟨σ1, hx, hle, hex, s1⟩ := p
            cases e' <;> first | exact hex.elim | skip
            exact leavesInM_mono (fun e w p => p.trans hx hle) (evDefs_sound ok hrec df1 e s1.tr s1.dl s1.hr (u := .returning) trivial)
          · rename_i v tm1 df1 h1 h0
            refine wpIn_mono (hrec _ _ h0 σ w _ none s trivial) fun e' a1 w1 p => ?_
            obtain ⟨σ1, hx, hle, hex, s1⟩ := p
            cases e' <;> first | exact hex.elim | skip
            rename_i ch
            obtain ⟨v', hc, hvv⟩ := hex
            subst hc
            exact leavesInM_mono (fun e w p => p.trans hx hle) (evDefs_sound ok hrec df1 e s1.tr s1.dl s1.hr (u := .panicking [{ v := v', recovered := false }]) ⟨v', rfl, hvv⟩)
          · cases e
  cases r with
  | ret v h' => exact key
  | pan v h' => exact key
  | code ex tm df h' =>
    exfalso
    unfold evFunc at e
    split at e
    · cases e
    · split at e
      · cases e
      · split at e
        · cases e
        · split at e
          · exact evDefs_code e
          · exact evDefs_code e
          · exact evDefs_code e
          · cases e

end
end Go.Ev

/- Ev: the evaluator is right: ranges over functions; all code; all of it. -/
namespace Go.Ev
noncomputable section
set_option linter.unusedVariables false
set_option linter.unusedSimpArgs false
variable {E : Nat → Option Value} {W0 : World} {C : Ctx} {rec_ : Task → Option Res}

structure LR (E : Nat → Option Value) (σ : Emb) (a : ALoop) (l : Loop) : Prop where
  h1 : l.state = a.state
  h2 : l.pending = a.pending
  h3 : TR E σ a.nt a.tmps l.tmps
  h4 : l.params = a.params
  h5 : l.assign = a.assign
  h6 : l.body = a.body
  h7 : σ a.defers = some l.defers
theorem getLoopA_some {h : AH} {l : Nat} {r : ALoop} (e : getLoopA C h l = some r) : C.G ≤ l ∧ h.blks.get l = some (.loop r) := by
  unfold getLoopA at e
  split at e
  · cases e
  · rename_i hG
    split at e
    · rename_i hb; injection e with e; subst e; exact ⟨ble_true hG, hb⟩
    · cases e
theorem loop_real {σ : Emb} {h : AH} {w : World} (hR : HR E C.P C.G W0 σ h w) {l l' : Nat} {r : ALoop} (e : getLoopA C h l = some r) (hs : σ l = some l') : ∃ R, w.heap[l']? = some (.loop R) ∧ LR E σ r R := by
  obtain ⟨hG, hb⟩ := getLoopA_some e
  obtain ⟨ob, h1, h2⟩ := hR.blk l _ l' hb hs
  cases h2 with
  | loop q1 q2 q3 q4 q5 q6 q7 => exact ⟨_, h1, q1, q2, q3, q4, q5, q6, q7⟩
theorem loop_put {σ : Emb} {h h2 : AH} {w : World} (hR : HR E C.P C.G W0 σ h w) {l l' : Nat} {r r2 : ALoop} {R2 : Loop} (e : getLoopA C h l = some r) (hs : σ l = some l') (hp : putLoop C h l r2 = some h2) (k : LR E σ r2 R2) :
    HR E C.P C.G W0 σ h2 (w.putObj l' (.loop R2)) ∧ h2.next = h.next := by
  obtain ⟨hG, hb⟩ := getLoopA_some e
  have hlt := (hR.dom l l' hs).2
  unfold putLoop at hp
  split at hp
  · rename_i blks hbl
    injection hp with hp; subst hp
    refine ⟨?_, rfl⟩
    show HF E C.P C.G W0 σ blks.get h.next _
    rw [put_upd hbl]
    refine HF.turn hR hG hb hs (o' := .loop r2) (ob' := .loop R2) (.loop k.h1 k.h2 k.h3 k.h4 k.h5 k.h6 k.h7) (fun j => ?_) (by simp)
    by_cases hj : j = l'
    · subst hj; rw [if_pos rfl]; exact World.putObj_heap_same hlt
    · rw [if_neg hj]; exact World.putObj_heap_other hj
  · cases hp

theorem putParams_sound {σ : Emb} {nt : Nat} : ∀ {ps : List Tmp} {args args' : List Value} {tm tm' : Trie Value} {tmps : Array Value}, putParams nt tm ps args = some tm' → TR E σ nt tm tmps → VL E σ args args' →
    ps.length = args'.length ∧ TR E σ nt tm' ((ps.zip args').foldl (fun tmps (t, a) => tmps.setIfInBounds t a) tmps) := by
  intro ps
  induction ps with
  | nil =>
    intro args args' tm tm' tmps e ht hv
    cases args with
    | nil => simp only [putParams] at e; injection e with e; subst e; obtain rfl := hv.of_nil; exact ⟨rfl, ht⟩
    | cons _ _ => simp only [putParams] at e; cases e
  | cons p ps ih =>
    intro args args' tm tm' tmps e ht hv
    cases args with
    | nil => simp only [putParams] at e; cases e
    | cons v vs =>
      obtain ⟨v', r', rfl, hv1, hv2⟩ := hv.uncons
      simp only [putParams] at e
      split at e
      · cases e
      · rename_i tm1 h1
        have ht1 := TR.put (a := { tmps := tmps, defers := [] }) ht hv1 h1
        obtain ⟨q1, q2⟩ := ih e ht1 hv2
        exact ⟨by simp [q1], q2⟩

theorem evRoundEnd_sound {σ : Emb} {h h' : AH} {w : World} {l l' : Nat} {ex : Ex} {v : Value} (hR : HR E C.P C.G W0 σ h w) (hs : σ l = some l') (e : evRoundEnd C l ex h = some (.ret v h')) {ee : Exit} (hex : ExR E σ ex ee) {a : Act} :
    roundPost C.P l' (fun e w' => ∃ v', e = .returned v' ∧ VR E σ v v' ∧ HR E C.P C.G W0 σ h' w' ∧ h'.next = h.next) ee a w := by
  unfold evRoundEnd at e
  split at e
  · cases e
  · rename_i r hr
    obtain ⟨R, hh, k⟩ := loop_real hR hr hs
    split at e
    · split at e
      · cases e
      · rename_i h2 hp
        injection e with e; injection e with e1 e2; subst e1 e2
        obtain rfl := hex.normal
        obtain ⟨q1, q2⟩ := loop_put hR hr hs hp (R2 := { R with state := .ready, pending := none }) ⟨rfl, rfl, k.h3, k.h4, k.h5, k.h6, k.h7⟩
        exact ⟨_, _, run_endRound none hh, _, rfl, .bool true, q1, q2⟩
    · split at e
      · cases e
      · rename_i h2 hp
        injection e with e; injection e with e1 e2; subst e1 e2
        cases ee <;> first | exact hex.elim | skip
        obtain ⟨q1, q2⟩ := loop_put hR hr hs hp (R2 := { R with state := .done, pending := some .ret }) ⟨rfl, rfl, k.h3, k.h4, k.h5, k.h6, k.h7⟩
        exact ⟨_, _, run_endRound (some .ret) hh, _, rfl, .bool false, q1, q2⟩
    · rename_i id
      split at e
      · cases e
      · rename_i h2 hp
        injection e with e; injection e with e1 e2; subst e1 e2
        cases ee <;> first | exact hex.elim | skip
        rename_i id'
        have : id = id' := hex
        subst this
        obtain ⟨q1, q2⟩ := loop_put hR hr hs hp (R2 := { R with state := .done, pending := some (.exit id) }) ⟨rfl, rfl, k.h3, k.h4, k.h5, k.h6, k.h7⟩
        exact ⟨_, _, run_endRound (some (.exit id)) hh, _, rfl, .bool false, q1, q2⟩
    · rename_i t
      split at e
      · cases e
      · rename_i h2 hp
        injection e with e; injection e with e1 e2; subst e1 e2
        cases ee <;> first | exact hex.elim | skip
        rename_i t'
        have : t = t' := hex
        subst this
        obtain ⟨q1, q2⟩ := loop_put hR hr hs hp (R2 := { R with state := .done, pending := some (.goto t) }) ⟨rfl, rfl, k.h3, k.h4, k.h5, k.h6, k.h7⟩
        exact ⟨_, _, run_endRound (some (.goto t)) hh, _, rfl, .bool false, q1, q2⟩
    · cases e

theorem evRound_sound (hrec : ∀ t r, rec_ t = some r → TaskOK E W0 C t r) {l : Nat} {args : List Value} {h : AH} {r : Res} (e : evRound C rec_ l args h = some r) : TaskOK E W0 C (.round l args h) r := by
  unfold evRound at e
  split at e
  · cases e
  · rename_i r0 hr0
    split at e
    · cases e
    · rename_i tm htm
      split at e
      · rename_i tm1 df1 h1 h0
        split at e
        · cases e
        · rename_i r1 hr1
          split at e
          · rename_i hst
            split at e
            · cases e
            · rename_i h2 hp2
              split at e
              · rename_i ex tm3 df3 h3 hb3
                have hret : ∃ v h4, r = .ret v h4 := by
                  unfold evRoundEnd at e
                  (repeat' split at e) <;> first | (cases e; done) | (injection e with e; exact ⟨_, _, e.symm⟩)
                obtain ⟨v, h4, rfl⟩ := hret
                intro σ w l' args' hR hs hv
                obtain ⟨R, hh, k⟩ := loop_real hR hr0 hs
                obtain ⟨q1, q2⟩ := putParams_sound htm k.h3 hv
                have hsz : args'.toArray.size = R.params.size := by rw [k.h4]; simp [← q1]
                refine ⟨_, _, _, _, run_yield hh hsz, ?_⟩
                have htm' : (R.params.zip args'.toArray).foldl (fun tmps (x : Tmp × Value) => match x with | (t, a) => tmps.setIfInBounds t a) R.tmps = (r0.params.toList.zip args').foldl (fun tmps (x : Tmp × Value) => match x with | (t, a) => tmps.setIfInBounds t a) R.tmps := by
                  rw [k.h4, ← Array.foldl_toList]; simp
                rw [htm', k.h5, k.h6]
                refine roundIn_of_wpIn (F := Fence.wide) trivial ?_
                have s0 : SR E W0 C σ r0.nt tm [] h { tmps := (r0.params.toList.zip args').foldl (fun tmps (x : Tmp × Value) => match x with | (t, a) => tmps.setIfInBounds t a) R.tmps, defers := [] } w := ⟨q2, trivial, hR⟩
                have k0 := hrec _ _ h0 σ w _ (some l') s0 hs
                refine wpIn_mono k0 fun e' a1 w1 p => ?_
                obtain ⟨σ1, hx1, hle1, hex1, s1⟩ := p
                obtain rfl := hex1.normal
                have hs1 : σ1 l = some l' := ((Ext.le hR hx1) _ _ hs).1
                obtain ⟨R1, hh1, k1⟩ := loop_real s1.hr hr1 hs1
                obtain ⟨hR2, hn2⟩ := loop_put s1.hr hr1 hs1 hp2 (R2 := { R1 with state := .busy }) ⟨rfl, k1.h2, k1.h3, k1.h4, k1.h5, k1.h6, k1.h7⟩
                refine ⟨_, run_beginRound hh1 (by rw [k1.h1]; exact hst), ?_⟩
                have s2 : SR E W0 C σ1 r0.nt tm1 df1 h2 a1 (w1.putObj l' (.loop { R1 with state := .busy })) := ⟨s1.tr, s1.dl, hR2⟩
                refine wpIn_mono (hrec _ _ hb3 σ1 _ a1 (some l') s2 hs1) fun e3 a3 w3 p3 => ?_
                obtain ⟨σ3, hx3, hle3, hex3, s3⟩ := p3
                have hs3 : σ3 l = some l' := ((Ext.le hR2 hx3) _ _ hs1).1
                have hend := evRoundEnd_sound (a := a3) s3.hr hs3 e hex3
                have fin : ∀ (e : Ending) (w' : World), (∃ v', e = .returned v' ∧ VR E σ3 v v' ∧ HR E C.P C.G W0 σ3 h4 w' ∧ h4.next = h3.next) → PostRet E W0 C σ h v h4 e w' := by
                  intro e w' hq
                  obtain ⟨v', rfl, hvv, hRR, hnn⟩ := hq
                  refine ⟨σ3, v', rfl, Ext.trans hle1 hx1 (fun b hb => hx3 b (by omega)), by omega, hvv, hRR⟩
                cases e3 with
                | normal => obtain ⟨v', w', hrun, hq⟩ := hend; exact ⟨v', w', hrun, fin _ _ hq⟩
                | ret => obtain ⟨v', w', hrun, hq⟩ := hend; exact ⟨v', w', hrun, fin _ _ hq⟩
                | exit id => obtain ⟨v', w', hrun, hq⟩ := hend; exact ⟨v', w', hrun, fin _ _ hq⟩
                | goto t => obtain ⟨v', w', hrun, hq⟩ := hend; exact ⟨v', w', hrun, fin _ _ hq⟩
                | panic ch => exact hend.elim
                | outgrown => exact hend.elim
              · cases e
          · cases e
      · cases e

end
end Go.Ev

/- Ev: the evaluator is right: ranges over functions; all code; all of it. -/
namespace Go.Ev
noncomputable section
set_option linter.unusedVariables false
set_option linter.unusedSimpArgs false
variable {E : Nat → Option Value} {W0 : World} {C : Ctx} {rec_ : Task → Option Res}

theorem evRange_sound (ok : COK E W0 C) (hrec : ∀ t r, rec_ t = some r → TaskOK E W0 C t r) {rd : Option Nat} {nt : Nat} {g : Operand} {ps : Array Tmp} {assign body : Code} {tm : Trie Value} {df : List ADef} {h : AH} {r : Res}
    (e : evRange C rec_ rd nt g ps assign body tm df h = some r) : TaskOK E W0 C (.code rd nt (.rangeFunc g ps assign body) tm df h) r := by
  unfold evRange at e
  split at e
  · cases e
  · split at e
    · cases e
    · rename_i hG
      have hG := ble_true hG
      split at e
      · cases e
      · rename_i blks hbl
        unfold evRangeGo at e
        simp only [] at e
        split at e
        · cases e
        · split at e
          · cases e
          · rename_i blks2 hbl2
            split at e
            · rename_i f first captured hg
              -- what the statement does, whatever comes of it
              have key : ∀ (ex : Ex) (tm' : Trie Value) (df' : List ADef) (h' : AH), r = .code ex tm' df' h' → TaskOK E W0 C (.code none nt (.rangeFunc g ps assign body) tm df h) (.code ex tm' df' h') := by
                intro ex tm' df' h' hr
                subst hr
                intro σ w a rd' s hrd
                cases rd' with
                | some _ => exact hrd.elim
                | none =>
                refine wpIn_rangeFunc fun fn _ => ?_
                have hgv := s.ev g _ hg
                cases hg' : a.eval g <;> rw [hg'] at hgv <;> (try (cases hgv; done))
                rename_i fn' first' captured'
                cases hgv with
                | lit q => simp [lit] at q
                | func ha hA hcc hC =>
                -- the two blocks
                have hR1 := s.hr.alloc (k := 0) (o := .noDefers) (ob := .deferred (some [])) .noDefers hG (w' := w.alloc (.deferred (some []))) rfl
                have hx1 : Ext h.next σ (ext σ h.next w.heap.size 0) := Ext.ext
                have hR1' : HR E C.P C.G W0 (ext σ h.next w.heap.size 0) { blks := blks, next := h.next + 1 } (w.alloc (.deferred (some []))) := by
                  show HF E C.P C.G W0 _ blks.get (h.next + 1) _
                  rw [put_upd hbl]; exact hR1
                have hsz1 : (w.alloc (.deferred (some []))).heap.size = w.heap.size + 1 := by simp
                have hx2 : Ext (h.next + 1) (ext σ h.next w.heap.size 0) (ext (ext σ h.next w.heap.size 0) (h.next + 1) (w.heap.size + 1) 0) := Ext.ext
                have le1 : Le σ (ext (ext σ h.next w.heap.size 0) (h.next + 1) (w.heap.size + 1) 0) := (Ext.le s.hr hx1).trans (Ext.le hR1' hx2)
                have hR2 := hR1'.alloc (k := 0) (o := .loop { state := .ready, pending := none, tmps := tm, nt := nt, params := ps, assign := assign, body := body, defers := h.next })
                  (ob := .loop { state := .ready, pending := none, fn := fn, tmps := a.tmps, params := ps, assign := assign, body := body, defers := w.heap.size })
                  (.loop rfl rfl (s.tr.mono (by rw [hsz1]; exact le1)) rfl rfl rfl (by rw [ext_ne (by simp)]; exact ext_self _ _ _ _)) (Nat.le_trans hG (Nat.le_succ _))
                  (w' := (w.alloc (.deferred (some []))).alloc (.loop { state := .ready, pending := none, fn := fn, tmps := a.tmps, params := ps, assign := assign, body := body, defers := w.heap.size })) rfl
                rw [hsz1] at hR2
                have hR2' : HR E C.P C.G W0 (ext (ext σ h.next w.heap.size 0) (h.next + 1) (w.heap.size + 1) 0) { blks := blks2, next := h.next + 1 + 1 } ((w.alloc (.deferred (some []))).alloc (.loop { state := .ready, pending := none, fn := fn, tmps := a.tmps, params := ps, assign := assign, body := body, defers := w.heap.size })) := by
                  show HF E C.P C.G W0 _ blks2.get (h.next + 1 + 1) _
                  rw [put_upd hbl2]; exact hR2
                have hargs : VL E (ext (ext σ h.next w.heap.size 0) (h.next + 1) (w.heap.size + 1) 0) (first.toList ++ [.func (.yield (h.next + 1)) #[] #[]] ++ captured.toList) (first'.toList ++ [.func (.yield (w.heap.size + 1)) #[] #[]] ++ captured'.toList) :=
                  (((VL.of_array ha hA).mono le1).append (VL.cons (.yield (ext_self _ _ _ _)) VL.nil)).append ((VL.of_array hcc hC).mono le1)
                have hx12 : Ext h.next σ (ext (ext σ h.next w.heap.size 0) (h.next + 1) (w.heap.size + 1) 0) := Ext.trans (Nat.le_succ _) hx1 hx2
                have hmark : DL E (ext (ext σ h.next w.heap.size 0) (h.next + 1) (w.heap.size + 1) 0) (.mark h.next :: df) ([{ target := .collected w.heap.size, args := #[] }] ++ a.defers) :=
                  ⟨⟨w.heap.size, by rw [ext_ne (by simp)]; exact ext_self _ _ _ _, rfl⟩, s.dl.mono le1⟩
                have hres : (resolve a.eval (rangeCall g (w.heap.size + 1)) 0).run C.P ((w.alloc (.deferred (some []))).alloc (.loop { state := .ready, pending := none, fn := fn, tmps := a.tmps, params := ps, assign := assign, body := body, defers := w.heap.size })) =
                    .ok { target := .fn (.func f) captured', args := first' ++ #[.func (.yield (w.heap.size + 1)) #[] #[]] } ((w.alloc (.deferred (some []))).alloc (.loop { state := .ready, pending := none, fn := fn, tmps := a.tmps, params := ps, assign := assign, body := body, defers := w.heap.size })) := by
                  simp only [resolve, hg', Deferred.ofValue, Sem.run_pure]
                  simp [Act.eval]
                have eargs : (first' ++ #[Value.func (Fn.yield (w.heap.size + 1)) #[] #[]] ++ captured') = (first'.toList ++ [Value.func (Fn.yield (w.heap.size + 1)) #[] #[]] ++ captured'.toList).toArray := by apply Array.ext'; simp
                split at e
                · rename_i v0 h2 h0
                  obtain ⟨hb, hcall⟩ := hrec _ _ h0 _ _ _ hR2' hargs
                  refine ⟨w.heap.size + 1, _, _, _, _, f, _, _, run_enterLoop_outer fn a.tmps ps assign body, hres, fun _ _ => FW_fn _ _, ?_, nodepth (rd' := none), FW_calls (hcall.mono fun e3 w3 hp3 => ?_)⟩
                  · show (callFunc f _).run C.P _ = _
                    rw [eargs]; exact run_callFunc ok hb _ _
                  · obtain ⟨σ3, v3, rfl, hx3, hle3, hv3, hR3⟩ := hp3
                    simp only [] at hx3 hle3
                    have hs3 : σ3 (h.next + 1) = some (w.heap.size + 1) := by rw [(hx3 _ (Nat.lt_succ_self _)).1]; exact ext_self _ _ _ _
                    split at e
                    · cases e
                    · rename_i r1 hr1
                      obtain ⟨R1, hh1, k1⟩ := loop_real hR3 hr1 hs3
                      split at e
                      · cases e
                      · rename_i hbz
                        have hnb : R1.state ≠ .busy := by
                          rw [k1.h1]; intro hh; rw [hh] at hbz; cases hbz
                        split at e
                        · cases e
                        · rename_i h3 hp
                          obtain ⟨hR4, hn4⟩ := loop_put hR3 hr1 hs3 hp (R2 := { R1 with state := .exhausted }) ⟨rfl, k1.h2, k1.h3, k1.h4, k1.h5, k1.h6, k1.h7⟩
                          have hrun4 := run_endLoop (P := C.P) hh1 hnb
                          generalize w3.putObj (w.heap.size + 1) (.loop { R1 with state := .exhausted }) = W4 at hR4 hrun4
                          refine ⟨R1.pending, W4, hrun4, ?_⟩
                          have hxx : Ext h.next σ σ3 := Ext.trans (by omega) hx12 hx3
                          have hle4 : h.next ≤ h3.next := by omega
                          have le3 : Le (ext (ext σ h.next w.heap.size 0) (h.next + 1) (w.heap.size + 1) 0) σ3 := Ext.le hR2' hx3
                          have s4 : SR E W0 C σ3 nt tm (.mark h.next :: df) h3 { a with defers := [{ target := .collected w.heap.size, args := #[] }] ++ a.defers } W4 :=
                            ⟨s.tr.mono (Ext.le s.hr hxx), hmark.mono le3, hR4⟩
                          rw [k1.h2]
                          split at e
                          · rename_i hpn
                            injection e with e; injection e with e1 e2 e3 e4; subst e1 e2 e3 e4
                            rw [hpn]
                            exact ⟨σ3, hxx, hle4, trivial, s4⟩
                          · rename_i c hpn
                            rw [hpn]
                            simp only []
                            refine wpIn_mono (hrec _ _ e σ3 _ _ none s4 trivial) fun e5 a5 w5 p5 => p5.trans hxx hle4
                · rename_i v0 h2 h0
                  obtain ⟨hb, hcall⟩ := hrec _ _ h0 _ _ _ hR2' hargs
                  injection e with e; injection e with e1 e2 e3 e4; subst e1 e2 e3 e4
                  refine ⟨w.heap.size + 1, _, _, _, _, f, _, _, run_enterLoop_outer fn a.tmps ps assign body, hres, fun _ _ => FW_fn _ _, ?_, nodepth (rd' := none), FW_calls (hcall.mono fun e3 w3 hp3 => ?_)⟩
                  · show (callFunc f _).run C.P _ = _
                    rw [eargs]; exact run_callFunc ok hb _ _
                  · obtain ⟨σ3, v3, rfl, hx3, hle3, hv3, hR3⟩ := hp3
                    simp only [] at hx3 hle3
                    have hxx : Ext h.next σ σ3 := Ext.trans (by omega) hx12 hx3
                    have le3 : Le (ext (ext σ h.next w.heap.size 0) (h.next + 1) (w.heap.size + 1) 0) σ3 := Ext.le hR2' hx3
                    exact ⟨σ3, hxx, by omega, ⟨v3, rfl, hv3⟩, s.tr.mono (Ext.le s.hr hxx), hmark.mono le3, hR3⟩
                · cases e
              have hcode : ∃ ex tm' df' h', r = .code ex tm' df' h' := by
                split at e
                · split at e
                  · cases e
                  · split at e
                    · cases e
                    · split at e
                      · cases e
                      · split at e
                        · injection e with e; exact ⟨_, _, _, _, e.symm⟩
                        · have := hrec _ _ e
                          cases r with
                          | code ex tm' df' h' => exact ⟨_, _, _, _, rfl⟩
                          | ret _ _ => exact this.elim
                          | pan _ _ => exact this.elim
                · injection e with e; exact ⟨_, _, _, _, e.symm⟩
                · cases e
              obtain ⟨ex, tm', df', h', hr⟩ := hcode
              have := key ex tm' df' h' hr
              rw [hr]; exact this
            · cases e

theorem evCode_sound (ok : COK E W0 C) {draw : Draw} (hdraw : ∀ rd nt ops tm df h r id, draw rec_ rd nt ops tm df h = some r → TaskOK E W0 C (.code rd nt (.region id ops true) tm df h) r)
    (hrec : ∀ t r, rec_ t = some r → TaskOK E W0 C t r) {rd : Option Nat} {nt : Nat} {c : Code} {tm : Trie Value} {df : List ADef} {h : AH} {r : Res}
    (e : evCode C draw rec_ rd nt c tm df h = some r) : TaskOK E W0 C (.code rd nt c tm df h) r := by
  cases c with
  | skip =>
    have e : some (Res.code .normal tm df h) = some r := e
    injection e with e; subst e
    exact fun σ w a rd' s hrd => wpIn_skip ⟨σ, Ext.refl _ _, Nat.le_refl _, trivial, s⟩
  | label l =>
    have e : some (Res.code .normal tm df h) = some r := e
    injection e with e; subst e
    exact fun σ w a rd' s hrd => wpIn_label ⟨σ, Ext.refl _ _, Nat.le_refl _, trivial, s⟩
  | exit id =>
    have e : some (Res.code (.exit id) tm df h) = some r := e
    injection e with e; subst e
    exact fun σ w a rd' s hrd => wpIn_exit ⟨σ, Ext.refl _ _, Nat.le_refl _, rfl, s⟩
  | goto l =>
    have e : some (Res.code (.goto l) tm df h) = some r := e
    injection e with e; subst e
    exact fun σ w a rd' s hrd => wpIn_goto ⟨σ, Ext.refl _ _, Nat.le_refl _, rfl, s⟩
  | ret =>
    have e : some (Res.code .ret tm df h) = some r := e
    injection e with e; subst e
    exact fun σ w a rd' s hrd => wpIn_ret ⟨σ, Ext.refl _ _, Nat.le_refl _, trivial, s⟩
  | refuse why => cases e
  | region id ops d =>
    cases d with
    | true => exact hdraw rd nt ops tm df h r id e
    | false =>
      have e : evOps C rec_ rd nt ops ops.toList tm df h = some r := e
      cases r with
      | code ex tm' df' h' =>
        intro σ w a rd' s hrd
        obtain ⟨ex1, tm1, df1, h1, hr, hwp⟩ := evOps_sound ok hrec ops.toList 0 rfl s hrd e
        injection hr with e1 e2 e3 e4; subst e1 e2 e3 e4
        refine wpIn_region ?_
        rw [List.range_eq_range']
        have : ops.toList.length = ops.size := by simp
        rw [← this]; exact hwp
      | ret _ _ => exact (evOps_code e).elim
      | pan _ _ => exact (evOps_code e).elim
  | seq x y =>
    have e : seqK rec_ rd nt y (rec_ (.code rd nt x tm df h)) = some r := e
    obtain ⟨ex, tm1, df1, h1, h0, e⟩ := onCode_some e
    have k1 := hrec _ _ h0
    rcases ifNormal_some e with ⟨rfl, e⟩ | ⟨hne, e⟩
    · have k2 := hrec _ _ e
      cases r with
      | code ex tm' df' h' =>
        intro σ w a rd' s hrd
        refine wpIn_seq (wpIn_mono (k1 σ w a rd' s hrd) fun e' a1 w1 p => ?_)
        obtain ⟨σ1, hx, hle, hex, s1⟩ := p
        obtain rfl := hex.normal
        exact wpIn_mono (k2 σ1 w1 a1 rd' s1 (hrd.mono (Ext.le s.hr hx))) fun e a w p => p.trans hx hle
      | ret _ _ => exact k2.elim
      | pan _ _ => exact k2.elim
    · rw [h0] at e; injection e with e; subst e
      intro σ w a rd' s hrd
      refine wpIn_seq (wpIn_mono (k1 σ w a rd' s hrd) fun e' a1 w1 p => ?_)
      have p0 := p
      obtain ⟨σ1, hx, hle, hex, s1⟩ := p
      exact then_of_not (hex.not_normal hne) p0
  | cond x y z =>
    have e : condK (evl C.G (tval tm) x) (rec_ (.code rd nt y tm df h)) (rec_ (.code rd nt z tm df h)) = some r := e
    rcases condK_some e with ⟨hv, e⟩ | ⟨hv, e⟩
    · have k := hrec _ _ e
      cases r with
      | code ex tm' df' h' => exact fun σ w a rd' s hrd => wpIn_cond (s.ev x _ hv).bool_inv (k σ w a rd' s hrd)
      | ret _ _ => exact k.elim
      | pan _ _ => exact k.elim
    · have k := hrec _ _ e
      cases r with
      | code ex tm' df' h' => exact fun σ w a rd' s hrd => wpIn_cond (s.ev x _ hv).bool_inv (k σ w a rd' s hrd)
      | ret _ _ => exact k.elim
      | pan _ _ => exact k.elim
  | block id b =>
    have e : blockK id (rec_ (.code rd nt b tm df h)) = some r := e
    obtain ⟨ex, tm1, df1, h1, h0, e⟩ := onCode_some e
    have k1 := hrec _ _ h0
    rcases isExit_some e with ⟨hx0, e5⟩ | ⟨hne, e5⟩
    · subst hx0
      injection e5 with e5; subst e5
      intro σ w a rd' s hrd
      refine wpIn_block (wpIn_mono (k1 σ w a rd' s hrd) fun e' a1 w1 p => ?_)
      obtain ⟨σ1, hx, hle, hex, s1⟩ := p
      cases e' <;> first | exact hex.elim | skip
      rename_i j
      have : id = j := hex
      subst this
      simp only [Exit.inBlock, if_true]
      exact ⟨σ1, hx, hle, trivial, s1⟩
    · rw [h0] at e5; injection e5 with e5; subst e5
      intro σ w a rd' s hrd
      refine wpIn_block (wpIn_mono (k1 σ w a rd' s hrd) fun e' a1 w1 p => ?_)
      obtain ⟨σ1, hx, hle, hex, s1⟩ := p
      cases e' with
      | exit j =>
        cases ex with
        | exit i =>
          have : i = j := hex
          subst this
          have hij : i ≠ id := fun hh => hne (by rw [hh])
          simp only [Exit.inBlock, hij, if_false]
          exact ⟨σ1, hx, hle, rfl, s1⟩
        | _ => exact hex.elim
      | _ => exact ⟨σ1, hx, hle, hex, s1⟩
  | loop b => exact (loop_sound hrec (r := r) e).2
  | scope b =>
    have e : rec_ (.scope rd nt b b tm df h) = some r := e
    have k := hrec _ _ e
    cases r with
    | code ex tm' df' h' => exact fun σ w a rd' s hrd => wpIn_scope_of (k σ w a rd' s hrd)
    | ret _ _ => exact k.elim
    | pan _ _ => exact k.elim
  | rangeFunc g ps assign body => exact evRange_sound ok hrec e

/-- ALL OF IT -/
theorem ev_sound (ok : COK E W0 C) {draw : Draw} (hdraw : ∀ rec_, (∀ t r, rec_ t = some r → TaskOK E W0 C t r) → ∀ rd nt ops tm df h r id, draw rec_ rd nt ops tm df h = some r → TaskOK E W0 C (.code rd nt (.region id ops true) tm df h) r) :
    ∀ (n : Nat) (t : Task) (r : Res), ev C draw n t = some r → TaskOK E W0 C t r := by
  intro n
  induction n with
  | zero => intro t r e; cases e
  | succ n ih =>
    intro t r e
    have e : evStep C draw (ev C draw n) t = some r := e
    cases t with
    | code rd nt c tm df h => exact evCode_sound ok (hdraw _ ih) ih e
    | scope rd nt body c tm df h => exact evScope_sound ih e
    | call f args h => exact evFunc_sound ok ih e
    | round l args h => exact evRound_sound ih e
    | iter rd nt b tm df h => exact (loop_sound ih (r := r) e).1

end
end Go.Ev
