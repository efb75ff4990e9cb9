/- Ev: the evaluator: code, calls, deferred calls, recover, ranges over functions. -/
import Derived.Test.YtnaodplcionlhaaGreatDoorEvI
namespace Go.Ev
noncomputable section
set_option linter.unusedVariables false
set_option linter.unusedSimpArgs false

inductive Ex where
  | normal
  | exit (id : Nat)
  | goto (l : Nat)
  | ret
  | panic (v : Value)
inductive ADef where
  | call (g : FuncId) (args : List Value)
  | mark (b : Nat)
inductive Task where
  | code (rd : Option Nat) (nt : Nat) (c : Code) (tm : Trie Value) (df : List ADef) (h : AH)
  | scope (rd : Option Nat) (nt : Nat) (body c : Code) (tm : Trie Value) (df : List ADef) (h : AH)
  | call (f : FuncId) (args : List Value) (h : AH)
  | round (l : Nat) (args : List Value) (h : AH)
  | iter (rd : Option Nat) (nt : Nat) (c : Code) (tm : Trie Value) (df : List ADef) (h : AH)
inductive Res where
  | code (ex : Ex) (tm : Trie Value) (df : List ADef) (h : AH)
  | ret (v : Value) (h : AH)
  | pan (v : Value) (h : AH)
structure Ctx where
  P : Program
  G : Nat
  fns : Trie Func
  meth : TypeId → String → Option FuncId
  stub : FuncId → Option (List Value → AH → Option (Value × AH))

def tval (tm : Trie Value) (t : Nat) : Option Value :=
  match tm.get t with
  | some v => some v
  | none => some undef
def tput (nt : Nat) (tm : Trie Value) (d : Option Tmp) (v : Value) : Option (Trie Value) :=
  match d with
  | none => some tm
  | some t => match Nat.ble (t + 1) nt with
    | true => tm.put D t (some v)
    | false => none

inductive CT where
  | fn (g : FuncId) (args : List Value)
  | yield (l : Nat) (args : List Value)
def target (C : Ctx) (ev : Operand → Option Value) (c : Call) : Option CT :=
  match evls ev c.args.toList with
  | none => none
  | some args => match c.callee with
    | .builtin _ => none
    | .value f => match ev f with
      | some (.func (.func g) first captured) => some (.fn g (first.toList ++ args ++ captured.toList))
      | some (.func (.yield l) _ _) => some (.yield l args)
      | _ => none
    | .invoke r name => match ev r with
      | some (.iface t v) => match C.meth t name with
        | some g => some (.fn g (v :: args))
        | none => none
      | _ => none
def isBuiltinCall (c : Call) : Bool :=
  match c.callee with
  | .builtin _ => true
  | _ => false

inductive OpRes where
  | val (v : Value) (df : List ADef) (h : AH)
  | pan (v : Value) (h : AH)

def evCall (C : Ctx) (rec_ : Task → Option Res) (ct : Option CT) (df : List ADef) (h : AH) : Option OpRes :=
  match ct with
  | none => none
  | some (.fn g args) => match C.stub g with
    | some s => match s args h with
      | some (v, h') => some (.val v df h')
      | none => none
    | none => match rec_ (.call g args h) with
      | some (.ret v h') => some (.val v df h')
      | some (.pan v h') => some (.pan v h')
      | _ => none
  | some (.yield l args) => match rec_ (.round l args h) with
    | some (.ret v h') => some (.val v df h')
    | _ => none
def evDefer (C : Ctx) (rd : Option Nat) (ev : Operand → Option Value) (c : Call) (df : List ADef) (h : AH) : Option OpRes :=
  match rd with
  | some _ => none
  | none => match evls ev c.args.toList with
    | none => none
    | some args => match c.callee with
      | .value f => match ev f with
        | some (.func (.func g) first captured) => some (.val undef (.call g (first.toList ++ args ++ captured.toList) :: df) h)
        | _ => none
      | _ => none
/-! ### the commonest operations, told apart once and for all -/
inductive K where
  | mv (x : Operand)
  | ld (t : TypeId) (a : Operand)
  | bin (op : BinOp) (t : TypeId) (x y : Operand)
  | fa (s : TypeId) (x : Operand) (f : Nat)
  | ia (t : TypeId) (x i : Operand)
  | other
def dig : Op → K
  | .move x => .mv x
  | .assign x => .mv x
  | .load t a => .ld t a
  | .binOp op t x y _ => .bin op t x y
  | .fieldAddr s x f => .fa s x f
  | .indexAddr t x i => .ia t x i
  | _ => .other
def kidx : IntKind → Nat := fun k => @IntKind.rec (fun _ => Nat) 0 1 2 3 4 5 6 7 k
def wrapI (k : IntKind) (n : Int) : Int :=
  @Bool.rec (fun _ => Int) (k.wrap n) (@Int.rec (fun _ => Int) (fun m => @Bool.rec (fun _ => Int) (Int.ofNat m) (k.wrap n) (Nat.ble 9223372036854775808 m)) (fun m => @Bool.rec (fun _ => Int) (Int.negSucc m) (k.wrap n) (Nat.ble 9223372036854775808 m)) n) (Nat.beq (kidx k) 3)
theorem kidx_inj {a b : IntKind} (h : kidx a = kidx b) : a = b := by cases a <;> cases b <;> first | rfl | (simp [kidx] at h)
theorem wrapI_eq (k : IntKind) (n : Int) : wrapI k n = k.wrap n := by
  cases h : Nat.beq (kidx k) 3
  · unfold wrapI; rw [h]
  · have : k = .i64 := kidx_inj (Trie.beq_true h)
    subst this
    cases n with
    | ofNat m =>
      show @Bool.rec (fun _ => Int) (Int.ofNat m) (IntKind.i64.wrap (Int.ofNat m)) (Nat.ble 9223372036854775808 m) = IntKind.i64.wrap (Int.ofNat m)
      generalize hb : Nat.ble 9223372036854775808 m = b
      cases b with
      | true => rfl
      | false =>
        have hb := ble_false hb
        exact (wrap_i64 (by simp only [Int.ofNat_eq_natCast]; omega) (by simp only [Int.ofNat_eq_natCast]; omega)).symm
    | negSucc m =>
      show @Bool.rec (fun _ => Int) (Int.negSucc m) (IntKind.i64.wrap (Int.negSucc m)) (Nat.ble 9223372036854775808 m) = IntKind.i64.wrap (Int.negSucc m)
      generalize hb : Nat.ble 9223372036854775808 m = b
      cases b with
      | true => rfl
      | false =>
        have hb := ble_false hb
        have h1 : (-9223372036854775808 : Int) ≤ Int.negSucc m := by omega
        have h2 : Int.negSucc m < 9223372036854775808 := by omega
        exact (wrap_i64 h1 h2).symm
/-- two whole numbers; both not below zero at once -/
def natI {α : Type} (a b : Int) (k : Nat → Nat → α) (d : α) : α :=
  @Int.rec (fun _ => α) (fun m => @Int.rec (fun _ => α) (fun n => k m n) (fun _ => d) b) (fun _ => d) a
theorem natI_eq {α : Type} {a b : Int} {k : Nat → Nat → α} {d r : α} (h1 : ∀ m n : Nat, a = Int.ofNat m → b = Int.ofNat n → k m n = r) (h2 : d = r) : natI a b k d = r := by
  cases a with
  | ofNat m => cases b with
    | ofNat n => exact h1 m n rfl rfl
    | negSucc n => exact h2
  | negSucc m => exact h2
def nBool (b : Bool) : Option Value := some (.bool b)
def binI (op : BinOp) (k : IntKind) (a b : Int) : Option Value :=
  match op with
  | .add => some (.int k (wrapI k (natI a b (fun m n => Int.ofNat (Nat.add m n)) (Int.add a b))))
  | .sub => some (.int k (wrapI k (Int.sub a b)))
  | .mul => some (.int k (wrapI k (natI a b (fun m n => Int.ofNat (Nat.mul m n)) (Int.mul a b))))
  | .eql => nBool (natI a b Nat.beq (a == b))
  | .neq => nBool (natI a b (fun m n => Bool.not (Nat.beq m n)) (a != b))
  | .lss => nBool (natI a b (fun m n => Nat.ble (Nat.succ m) n) (decide (a < b)))
  | .leq => nBool (natI a b Nat.ble (decide (a ≤ b)))
  | .gtr => nBool (natI a b (fun m n => Nat.ble (Nat.succ n) m) (decide (b < a)))
  | .geq => nBool (natI a b (fun m n => Nat.ble n m) (decide (b ≤ a)))
  | .shl => none
  | .shr => none
  | op => aint op k a b
theorem bool_of_iff {a b : Bool} (h : a = true ↔ b = true) : a = b := Bool.eq_iff_iff.2 h
theorem binI_eq {op : BinOp} {k : IntKind} {a b : Int} {v : Value} (h : binI op k a b = some v) : isShift op = false ∧ aint op k a b = some v := by
  have hadd : natI a b (fun m n => Int.ofNat (Nat.add m n)) (Int.add a b) = a + b := natI_eq (fun m n e1 e2 => by subst e1 e2; rfl) rfl
  have hmul : natI a b (fun m n => Int.ofNat (Nat.mul m n)) (Int.mul a b) = a * b := natI_eq (fun m n e1 e2 => by subst e1 e2; rfl) rfl
  have heq : natI a b Nat.beq (a == b) = (a == b) := natI_eq (fun m n e1 e2 => by
    subst e1 e2; apply bool_of_iff; simp only [beq_iff_eq, Int.ofNat.injEq, Int.ofNat_eq_natCast]; constructor
    · intro h; have := Nat.eq_of_beq_eq_true h; omega
    · intro h; have : m = n := by omega
      subst this; simp) rfl
  have hne : natI a b (fun m n => Bool.not (Nat.beq m n)) (a != b) = (a != b) := natI_eq (fun m n e1 e2 => by
    subst e1 e2; show (!(Nat.beq m n)) = !(Int.ofNat m == Int.ofNat n); congr 1) rfl
  have ble_iff : ∀ m n : Nat, Nat.ble m n = true ↔ m ≤ n := fun m n => ⟨ble_true, Nat.ble_eq_true_of_le⟩
  have hlt : natI a b (fun m n => Nat.ble (Nat.succ m) n) (decide (a < b)) = decide (a < b) := natI_eq (fun m n e1 e2 => by subst e1 e2; apply bool_of_iff; rw [ble_iff]; simp; try omega) rfl
  have hle : natI a b Nat.ble (decide (a ≤ b)) = decide (a ≤ b) := natI_eq (fun m n e1 e2 => by subst e1 e2; apply bool_of_iff; rw [ble_iff]; simp) rfl
  have hgt : natI a b (fun m n => Nat.ble (Nat.succ n) m) (decide (b < a)) = decide (b < a) := natI_eq (fun m n e1 e2 => by subst e1 e2; apply bool_of_iff; rw [ble_iff]; simp; try omega) rfl
  have hge : natI a b (fun m n => Nat.ble n m) (decide (b ≤ a)) = decide (b ≤ a) := natI_eq (fun m n e1 e2 => by subst e1 e2; apply bool_of_iff; rw [ble_iff]; simp) rfl
  unfold binI nBool at h
  rw [hadd, hmul, heq, hne, hlt, hle, hgt, hge] at h
  cases op <;> simp only [] at h <;> first | (cases h; done) | (refine ⟨rfl, ?_⟩; first | exact h | (rw [← h]; first | rfl | (simp only [aint, wrapI_eq, awrap_eq]; done) | (simp only [aint, wrapI_eq, awrap_eq]; rfl)))
def asI (v : Value) (k : IntKind → Int → Option Value) (d : Option Value) : Option Value :=
  match v with
  | .int kk n => k kk n
  | _ => d
def fastBin (P : Program) (op : BinOp) (t : TypeId) (x y : Operand) (a b : Value) : Option Value :=
  asI a (fun k n => asI b (fun k' m => @Bool.rec (fun _ => Option Value) (abin P op t (isCon x || isCon y) a b) (@Option.rec Value (fun _ => Option Value) (abin P op t (isCon x || isCon y) a b) (fun v => some v) (binI op k n m)) (Nat.beq (kidx k) (kidx k'))) none) (abin P op t (isCon x || isCon y) a b)
theorem fastBin_eq {P : Program} {op : BinOp} {t : TypeId} {x y : Operand} {a b v : Value} (h : fastBin P op t x y a b = some v) : abin P op t (isCon x || isCon y) a b = some v := by
  unfold fastBin asI at h
  split at h
  · rename_i k n
    dsimp only at h
    split at h
    · rename_i k' m
      cases hb : Nat.beq (kidx k) (kidx k') with
      | false => rw [hb] at h; exact h
      | true =>
        rw [hb] at h
        obtain rfl := kidx_inj (Trie.beq_true hb)
        cases hi : binI op k n m with
        | none => rw [hi] at h; exact h
        | some u =>
          rw [hi] at h
          injection h with h; subst h
          obtain ⟨h1, h2⟩ := binI_eq hi
          have hk : kindEq k k = true := by cases k <;> rfl
          simp only [abin, h1, hk]
          exact h2
    · cases h
  · exact h
/-- where a field lies -/
def faOff (P : Program) (s : TypeId) (f : Nat) : Option Nat :=
  match pund P s with
  | some (.struct fs) => match fs.toList[f]? with
    | some fd => match size? P fd.type with
      | some (_ + 1) => some fd.offset
      | _ => none
    | none => none
  | _ => none
def ptrAdd (x : Value) (n : Nat) : Option Value :=
  match x with
  | .pointer (some ⟨b, o, none⟩) => some (.pointer (some ⟨b, o + n, none⟩))
  | _ => none
def fastFA (P : Program) (s : TypeId) (x : Value) (f : Nat) : Option Value :=
  @Option.rec Nat (fun _ => Option Value) none (fun n => ptrAdd x n) (faOff P s f)
theorem fastFA_eq {P : Program} {s : TypeId} {x v : Value} {f : Nat} (h : fastFA P s x f = some v) : afieldAddr P s x f = some v := by
  unfold fastFA at h
  cases hf : faOff P s f with
  | none => rw [hf] at h; cases h
  | some n =>
    rw [hf] at h
    simp only [ptrAdd] at h
    split at h
    · rename_i b o
      injection h with h; subst h
      unfold faOff at hf
      unfold afieldAddr
      split at hf
      · rename_i fs hu
        simp only [hu]
        split at hf
        · rename_i fd hfd
          simp only [hfd]
          split at hf
          · rename_i n' hn
            injection hf with hf; subst hf
            simp only [hn]
          · cases hf
        · cases hf
      · cases hf
    · cases h
/-- what is indexed: an array of so many, or a slice; and an element's size -/
def iaInfo (P : Program) (t : TypeId) : Option (Option Nat × Nat) :=
  match pund P t with
  | some (.array n e) => match size? P e with
    | some sz => some (some n, sz)
    | none => none
  | some (.slice e) => match size? P e with
    | some sz => some (none, sz)
    | none => none
  | _ => none
def iaP (x : Value) (n sz m : Nat) : Option Value :=
  match x with
  | .pointer (some ⟨b, o, none⟩) => @Bool.rec (fun _ => Option Value) none (some (.pointer (some ⟨b, o + m * sz, none⟩))) (Nat.ble (m + 1) n)
  | _ => none
def iaS (x : Value) (sz m : Nat) : Option Value :=
  match x with
  | .slice (some ⟨b, o, none⟩) n _ => @Bool.rec (fun _ => Option Value) none (some (.pointer (some ⟨b, o + m * sz, none⟩))) (Nat.ble (m + 1) n)
  | _ => none
def asN (v : Value) (k : Nat → Option Value) : Option Value :=
  match v with
  | .int _ n => @Int.rec (fun _ => Option Value) k (fun _ => none) n
  | _ => none
def fastIA (P : Program) (t : TypeId) (x i : Value) : Option Value :=
  @Option.rec (Option Nat × Nat) (fun _ => Option Value) none (fun p => @Prod.rec (Option Nat) Nat (fun _ => Option Value) (fun a sz => asN i fun m => @Option.rec Nat (fun _ => Option Value) (iaS x sz m) (fun n => iaP x n sz m) a) p) (iaInfo P t)
theorem fastIA_eq {P : Program} {t : TypeId} {x i v : Value} (h : fastIA P t x i = some v) : aindexAddr P t x i = some v := by
  unfold fastIA at h
  cases hi : iaInfo P t with
  | none => rw [hi] at h; cases h
  | some p =>
    obtain ⟨a, sz⟩ := p
    rw [hi] at h
    simp only [asN] at h
    split at h
    · rename_i k n
      cases n with
      | negSucc m => cases h
      | ofNat m =>
        simp only [] at h
        unfold iaInfo at hi
        unfold aindexAddr
        split at hi
        · rename_i n e hu
          split at hi
          · rename_i sz' hsz
            injection hi with hi; injection hi with e1 e2; subst e1 e2
            simp only [iaP] at h
            split at h
            · rename_i b o
              simp only [hu, hsz]
              cases hb : Nat.ble (m + 1) n with
              | false => rw [hb] at h; cases h
              | true => rw [hb] at h; exact h
            · cases h
          · cases hi
        · rename_i e hu
          split at hi
          · rename_i sz' hsz
            injection hi with hi; injection hi with e1 e2; subst e1 e2
            simp only [iaS] at h
            split at h
            · rename_i b o n c
              simp only [hu, hsz]
              cases hb : Nat.ble (m + 1) n with
              | false => rw [hb] at h; cases h
              | true => rw [hb] at h; exact h
            · cases h
          · cases hi
        · cases hi
    · cases h
def retV (df : List ADef) (h : AH) (v : Option Value) : Option OpRes := @Option.rec Value (fun _ => Option OpRes) none (fun v => some (.val v df h)) v
def withV (v : Option Value) (k : Value → Option OpRes) : Option OpRes := @Option.rec Value (fun _ => Option OpRes) none k v
def evSlow (C : Ctx) (rec_ : Task → Option Res) (rd : Option Nat) (op : Op) (ev : Operand → Option Value) (df : List ADef) (h : AH) : Option OpRes :=
  match op with
  | .call c => match isBuiltinCall c with
    | true => match aop C.P C.G h ev (.call c) with
      | some (v, h') => some (.val v df h')
      | none => none
    | false => evCall C rec_ (target C ev c) df h
  | .defer c => evDefer C rd ev c df h
  | .panic x => match ev x with
    | some (.iface t v) => some (.pan (.iface t v) h)
    | _ => none
  | op => match aop C.P C.G h ev op with
    | some (v, h') => some (.val v df h')
    | none => none
def evOp (C : Ctx) (rec_ : Task → Option Res) (rd : Option Nat) (op : Op) (ev : Operand → Option Value) (df : List ADef) (h : AH) : Option OpRes :=
  @K.rec (fun _ => Option OpRes)
    (fun x => retV df h (ev x))
    (fun t a => withV (ev a) fun x => retV df h (aload C.P h t x))
    (fun op t x y => withV (ev x) fun a => withV (ev y) fun b => retV df h (fastBin C.P op t x y a b))
    (fun s x f => withV (ev x) fun a => retV df h (fastFA C.P s a f))
    (fun t x i => withV (ev x) fun a => withV (ev i) fun b => retV df h (fastIA C.P t a b))
    (evSlow C rec_ rd op ev df h)
    (dig op)
/-- is an operation wanted, by its guard? -/
def want (ops : Array Oper) (tv : Nat → Option Value) (o : Oper) : Option Bool :=
  match o.guard with
  | none => some true
  | some (j, b) => match (ops[j]?).bind (·.dst) with
    | none => some false
    | some t => match tv t with
      | some (.bool b') => match b', b with
        | true, true => some true
        | false, false => some true
        | _, _ => some false
      | some (.tuple _) => some false
      | _ => none
abbrev Cont := Trie Value → List ADef → AH → Option Res
def onTm (t : Option (Trie Value)) (k : Trie Value → Option Res) : Option Res := @Option.rec (Trie Value) (fun _ => Option Res) none k t
def opEnd (nt : Nat) (o : Oper) (k : Cont) (tm : Trie Value) (df : List ADef) (r : Option OpRes) : Option Res :=
  @Option.rec OpRes (fun _ => Option Res) none (fun s => @OpRes.rec (fun _ => Option Res) (fun v df' h' => onTm (tput nt tm o.dst v) fun tm' => k tm' df' h') (fun v h' => some (.code (.panic v) tm df h')) s) r
def opGo (C : Ctx) (rec_ : Task → Option Res) (rd : Option Nat) (nt : Nat) (o : Oper) (k : Cont) (tm : Trie Value) (df : List ADef) (h : AH) (wanted : Bool) : Option Res :=
  @Bool.rec (fun _ => Option Res) (onTm (tput nt tm o.dst undef) fun tm' => k tm' df h) (opEnd nt o k tm df (evOp C rec_ rd o.op (evl C.G (tval tm)) df h)) wanted
def onWant (w : Option Bool) (k : Bool → Option Res) : Option Res := @Option.rec Bool (fun _ => Option Res) none k w
def evOps (C : Ctx) (rec_ : Task → Option Res) (rd : Option Nat) (nt : Nat) (ops : Array Oper) (l : List Oper) : Trie Value → List ADef → AH → Option Res :=
  @List.rec Oper (fun _ => Cont) (fun tm df h => some (.code .normal tm df h)) (fun o _ k tm df h => onWant (want ops (tval tm) o) (opGo C rec_ rd nt o k tm df h)) l
theorem evOps_nil (C : Ctx) (rec_ : Task → Option Res) (rd : Option Nat) (nt : Nat) (ops : Array Oper) (tm : Trie Value) (df : List ADef) (h : AH) : evOps C rec_ rd nt ops [] tm df h = some (.code .normal tm df h) := rfl
theorem evOps_cons (C : Ctx) (rec_ : Task → Option Res) (rd : Option Nat) (nt : Nat) (ops : Array Oper) (o : Oper) (l : List Oper) (tm : Trie Value) (df : List ADef) (h : AH) : evOps C rec_ rd nt ops (o :: l) tm df h =
    match want ops (tval tm) o with
    | none => none
    | some false => match tput nt tm o.dst undef with
      | none => none
      | some tm' => evOps C rec_ rd nt ops l tm' df h
    | some true => match evOp C rec_ rd o.op (evl C.G (tval tm)) df h with
      | none => none
      | some (.pan v h') => some (.code (.panic v) tm df h')
      | some (.val v df' h') => match tput nt tm o.dst v with
        | none => none
        | some tm' => evOps C rec_ rd nt ops l tm' df' h' := by
  show onWant (want ops (tval tm) o) (opGo C rec_ rd nt o (evOps C rec_ rd nt ops l) tm df h) = _
  generalize want ops (tval tm) o = wn
  cases wn with
  | none => rfl
  | some b =>
    cases b with
    | false =>
      show onTm (tput nt tm o.dst undef) (fun tm' => evOps C rec_ rd nt ops l tm' df h) = _
      generalize tput nt tm o.dst undef = t
      cases t <;> rfl
    | true =>
      show opEnd nt o (evOps C rec_ rd nt ops l) tm df (evOp C rec_ rd o.op (evl C.G (tval tm)) df h) = _
      generalize evOp C rec_ rd o.op (evl C.G (tval tm)) df h = r
      cases r with
      | none => rfl
      | some r =>
        cases r with
        | pan v h' => rfl
        | val v df' h' =>
          show onTm (tput nt tm o.dst v) (fun tm' => evOps C rec_ rd nt ops l tm' df' h') = _
          simp only []
          generalize tput nt tm o.dst v = t
          cases t <;> rfl

/-- the same in a deferred call, where recover answers; pn: what the caller's panic is, and whether it was recovered -/
def isRecover : Op → Bool
  | .call c => match c.callee with
    | .builtin .recover => true
    | _ => false
  | _ => false
def evOpsS (C : Ctx) (nt : Nat) (ops : Array Oper) : List Oper → Trie Value → AH → Option (Value × Bool) → Option (Trie Value × AH × Option (Value × Bool))
  | [], tm, h, pn => some (tm, h, pn)
  | o :: l, tm, h, pn => match want ops (tval tm) o with
    | none => none
    | some false => match tput nt tm o.dst undef with
      | none => none
      | some tm' => evOpsS C nt ops l tm' h pn
    | some true => match isRecover o.op with
      | true => match pn with
        | some (v, false) => match tput nt tm o.dst v with
          | none => none
          | some tm' => evOpsS C nt ops l tm' h (some (v, true))
        | _ => match tput nt tm o.dst .nilIface with
          | none => none
          | some tm' => evOpsS C nt ops l tm' h pn
      | false => match aop C.P C.G h (evl C.G (tval tm)) o.op with
        | none => none
        | some (v, h') => match tput nt tm o.dst v with
          | none => none
          | some tm' => evOpsS C nt ops l tm' h' pn

/-- a function's answer -/
def evResult (P : Program) (h : AH) (tm : Trie Value) : ResultVar → Option Value
  | .tmp t => tval tm t
  | .cell a t => match tval tm a with
    | none => none
    | some x => aload P h t x
def evResults1 (P : Program) (h : AH) (tm : Trie Value) : List ResultVar → Option (List Value)
  | [] => some []
  | r :: rs => match evResult P h tm r with
    | none => none
    | some v => match evResults1 P h tm rs with
      | none => none
      | some l => some (v :: l)
def evResults (P : Program) (fn : Func) (h : AH) (tm : Trie Value) : Option Value :=
  match evResults1 P h tm fn.results.toList with
  | none => none
  | some [v] => some v
  | some l => some (.tuple l.toArray)

def startTm (args : List Value) : Option (Trie Value) := Trie.nil.puts D 0 args

/-- a deferred call -/
def finD (C : Ctx) (fn : Func) (pn : Option (Value × Bool)) (r : Option Res) : Option (AH × Option (Value × Bool)) :=
  match r with
  | some (.code .normal tm [] h) => match evResults C.P fn h tm with
    | some _ => some (h, pn)
    | none => none
  | some (.code .ret tm [] h) => match evResults C.P fn h tm with
    | some _ => some (h, pn)
    | none => none
  | _ => none
def evDef (C : Ctx) (rec_ : Task → Option Res) (g : FuncId) (args : List Value) (h : AH) (pn : Option (Value × Bool)) : Option (AH × Option (Value × Bool)) :=
  match C.fns.get g with
  | none => none
  | some fn => match fn.body with
    | none => none
    | some c => match startTm args with
      | none => none
      | some tm => match c with
        | .seq (.region _ ops false) b => match evOpsS C (args.length + (fn.ntmps - args.length)) ops ops.toList tm h pn with
          | none => none
          | some (tm, h, pn) => finD C fn pn (rec_ (.code none (args.length + (fn.ntmps - args.length)) b tm [] h))
        | c => finD C fn pn (rec_ (.code none (args.length + (fn.ntmps - args.length)) c tm [] h))
def settleA : Option (Value × Bool) → Option (Value × Bool)
  | some (_, true) => none
  | x => x
def evDefs (C : Ctx) (rec_ : Task → Option Res) (fn : Func) (tm : Trie Value) : List ADef → Option (Value × Bool) → AH → Option Res
  | [], none, h => match evResults C.P fn h tm with
    | some v => some (.ret v h)
    | none => none
  | [], some (v, false), h => some (.pan v h)
  | [], some (_, true), h => none
  | .mark b :: ds, pn, h => match Nat.ble C.G b with
    | false => none
    | true => match h.blks.get b with
      | some .noDefers => match h.blks.put D b none with
        | some blks => evDefs C rec_ fn tm ds pn { h with blks := blks }
        | none => none
      | _ => none
  | .call g args :: ds, pn, h => match evDef C rec_ g args h pn with
    | none => none
    | some (h', pn') => evDefs C rec_ fn tm ds (settleA pn') h'

def evFunc (C : Ctx) (rec_ : Task → Option Res) (f : FuncId) (args : List Value) (h : AH) : Option Res :=
  match C.fns.get f with
  | none => none
  | some fn => match fn.body with
    | none => none
    | some c => match startTm args with
      | none => none
      | some tm => match rec_ (.code none (args.length + (fn.ntmps - args.length)) c tm [] h) with
        | some (.code .normal tm df h) => evDefs C rec_ fn tm df none h
        | some (.code .ret tm df h) => evDefs C rec_ fn tm df none h
        | some (.code (.panic v) tm df h) => evDefs C rec_ fn tm df (some (v, false)) h
        | _ => none

/-! ### ranges over functions -/
def putLoop (C : Ctx) (h : AH) (l : Nat) (r : ALoop) : Option AH :=
  match h.blks.put D l (some (.loop r)) with
  | some blks => some { h with blks := blks }
  | none => none
def getLoopA (C : Ctx) (h : AH) (l : Nat) : Option ALoop :=
  match Nat.ble C.G l with
  | false => none
  | true => match h.blks.get l with
    | some (.loop r) => some r
    | _ => none
def putParams (nt : Nat) : Trie Value → List Tmp → List Value → Option (Trie Value)
  | tm, [], [] => some tm
  | tm, t :: ts, v :: vs => match tput nt tm (some t) v with
    | none => none
    | some tm' => putParams nt tm' ts vs
  | _, _, _ => none
def evRoundEnd (C : Ctx) (l : Nat) (ex : Ex) (h : AH) : Option Res :=
  match getLoopA C h l with
  | none => none
  | some r => match ex with
    | .normal => match putLoop C h l { r with state := .ready, pending := none } with
      | none => none
      | some h => some (.ret (.bool true) h)
    | .ret => match putLoop C h l { r with state := .done, pending := some .ret } with
      | none => none
      | some h => some (.ret (.bool false) h)
    | .exit id => match putLoop C h l { r with state := .done, pending := some (.exit id) } with
      | none => none
      | some h => some (.ret (.bool false) h)
    | .goto t => match putLoop C h l { r with state := .done, pending := some (.goto t) } with
      | none => none
      | some h => some (.ret (.bool false) h)
    | .panic _ => none
def evRound (C : Ctx) (rec_ : Task → Option Res) (l : Nat) (args : List Value) (h : AH) : Option Res :=
  match getLoopA C h l with
  | none => none
  | some r => match putParams r.nt r.tmps r.params.toList args with
    | none => none
    | some tm => match rec_ (.code (some l) r.nt r.assign tm [] h) with
      | some (.code .normal tm df h) => match getLoopA C h l with
        | none => none
        | some r1 => match r1.state with
          | .ready => match putLoop C h l { r1 with state := .busy } with
            | none => none
            | some h => match rec_ (.code (some l) r.nt r.body tm df h) with
              | some (.code ex _ _ h) => evRoundEnd C l ex h
              | _ => none
          | _ => none
      | _ => none
def isBusy : LoopState → Bool
  | .busy => true
  | _ => false
def evRangeGo (C : Ctx) (rec_ : Task → Option Res) (rd : Option Nat) (nt : Nat) (g : Operand) (ps : Array Tmp) (assign body : Code) (tm : Trie Value) (df : List ADef) (dfs : Nat) (h : AH) : Option Res :=
  match Nat.ble C.G h.next with
  | false => none
  | true => match h.blks.put D h.next (some (.loop { state := .ready, pending := none, tmps := tm, nt := nt, params := ps, assign := assign, body := body, defers := dfs })) with
    | none => none
    | some blks => match evl C.G (tval tm) g with
      | some (.func (.func f) first captured) => match rec_ (.call f (first.toList ++ [.func (.yield h.next) #[] #[]] ++ captured.toList) { blks := blks, next := h.next + 1 }) with
        | some (.ret _ h2) => match getLoopA C h2 h.next with
          | none => none
          | some r => match isBusy r.state with
            | true => none
            | false => match putLoop C h2 h.next { r with state := .exhausted } with
              | none => none
              | some h3 => match r.pending with
                | none => some (.code .normal tm df h3)
                | some c => rec_ (.code rd nt c tm df h3)
        | some (.pan v h2) => some (.code (.panic v) tm df h2)
        | _ => none
      | _ => none
def evRange (C : Ctx) (rec_ : Task → Option Res) (rd : Option Nat) (nt : Nat) (g : Operand) (ps : Array Tmp) (assign body : Code) (tm : Trie Value) (df : List ADef) (h : AH) : Option Res :=
  match rd with
  | some _ => none
  | none => match Nat.ble C.G h.next with
    | false => none
    | true => match h.blks.put D h.next (some .noDefers) with
      | none => none
      | some blks => evRangeGo C rec_ none nt g ps assign body tm (.mark h.next :: df) h.next { blks := blks, next := h.next + 1 }

def onCode (r : Option Res) (k : Ex → Trie Value → List ADef → AH → Option Res) : Option Res :=
  @Option.rec Res (fun _ => Option Res) none (fun s => @Res.rec (fun _ => Option Res) k (fun _ _ => none) (fun _ _ => none) s) r
def ifNormal (r : Option Res) (n : Option Res) (ex : Ex) : Option Res := @Ex.rec (fun _ => Option Res) n (fun _ => r) (fun _ => r) r (fun _ => r) ex
def seqK (rec_ : Task → Option Res) (rd : Option Nat) (nt : Nat) (b : Code) (r : Option Res) : Option Res := onCode r fun ex tm df h => ifNormal r (rec_ (.code rd nt b tm df h)) ex
def loopK (rec_ : Task → Option Res) (rd : Option Nat) (nt : Nat) (b : Code) (r : Option Res) : Option Res := onCode r fun ex tm df h => ifNormal r (rec_ (.iter rd nt b tm df h)) ex
def isExit (id : Nat) (r n : Option Res) (ex : Ex) : Option Res := @Ex.rec (fun _ => Option Res) r (fun id' => @Bool.rec (fun _ => Option Res) r n (Nat.beq id' id)) (fun _ => r) r (fun _ => r) ex
def blockK (id : Nat) (r : Option Res) : Option Res := onCode r fun ex tm df h => isExit id r (some (.code .normal tm df h)) ex
def condK (v : Option Value) (a b : Option Res) : Option Res :=
  match v with
  | some (.bool t) => @Bool.rec (fun _ => Option Res) b a t
  | _ => none
abbrev Draw := (Task → Option Res) → Option Nat → Nat → Array Oper → Trie Value → List ADef → AH → Option Res
def evCode (C : Ctx) (draw : Draw) (rec_ : Task → Option Res) (rd : Option Nat) (nt : Nat) (c : Code) (tm : Trie Value) (df : List ADef) (h : AH) : Option Res :=
  @Code.rec (fun _ => Option Res)
    (some (.code .normal tm df h))
    (fun _ ops d => @Bool.rec (fun _ => Option Res) (evOps C rec_ rd nt ops ops.toList tm df h) (draw rec_ rd nt ops tm df h) d)
    (fun a b _ _ => seqK rec_ rd nt b (rec_ (.code rd nt a tm df h)))
    (fun x a b _ _ => condK (evl C.G (tval tm) x) (rec_ (.code rd nt a tm df h)) (rec_ (.code rd nt b tm df h)))
    (fun id b _ => blockK id (rec_ (.code rd nt b tm df h)))
    (fun b _ => loopK rec_ rd nt b (rec_ (.code rd nt b tm df h)))
    (fun g ps assign body _ _ => evRange C rec_ rd nt g ps assign body tm df h)
    (fun id => some (.code (.exit id) tm df h))
    (fun b _ => rec_ (.scope rd nt b b tm df h))
    (fun _ => some (.code .normal tm df h))
    (fun l => some (.code (.goto l) tm df h))
    (some (.code .ret tm df h))
    (fun _ => none)
    c
def evScope (C : Ctx) (rec_ : Task → Option Res) (rd : Option Nat) (nt : Nat) (body c : Code) (tm : Trie Value) (df : List ADef) (h : AH) : Option Res :=
  match rec_ (.code rd nt c tm df h) with
  | some (.code (.goto l) tm df h) => match findLabel body l with
    | some rest => rec_ (.scope rd nt body rest tm df h)
    | none => some (.code (.goto l) tm df h)
  | r => r
def evStep (C : Ctx) (draw : Draw) (rec_ : Task → Option Res) (t : Task) : Option Res :=
  @Task.rec (fun _ => Option Res)
    (fun rd nt c tm df h => evCode C draw rec_ rd nt c tm df h)
    (fun rd nt body c tm df h => evScope C rec_ rd nt body c tm df h)
    (fun f args h => evFunc C rec_ f args h)
    (fun l args h => evRound C rec_ l args h)
    (fun rd nt b tm df h => loopK rec_ rd nt b (rec_ (.code rd nt b tm df h)))
    t
def ev (C : Ctx) (draw : Draw) (n : Nat) : Task → Option Res :=
  @Nat.rec (fun _ => Task → Option Res) (fun _ => none) (fun _ rec_ => evStep C draw rec_) n

end
end Go.Ev
