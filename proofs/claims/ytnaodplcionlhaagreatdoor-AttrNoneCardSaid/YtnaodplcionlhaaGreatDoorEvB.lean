/- Ev: the operations that neither read nor write the memory. -/
import Derived.Test.YtnaodplcionlhaaGreatDoorEvA
namespace Go.Ev
noncomputable section
set_option linter.unusedVariables false
set_option linter.unusedSimpArgs false

theorem run_und (P : Program) (t : TypeId) (w : World) : (underlying t).run P w = match pund P t with | some d => .ok d w | none => undNone P t w := by
  cases h : pund P t with
  | none => rfl
  | some d => simp only [underlying, Sem.run_bind, run_program, Result.andThen_ok, pund_eq h, Sem.run_pure]
theorem run_info (P : Program) (t : TypeId) (w : World) : (typeInfo t).run P w = match pinfo P t with | some d => .ok d w | none => infoNone P t w := by
  cases h : pinfo P t with
  | none => rfl
  | some d => simp only [typeInfo, Sem.run_bind, run_program, Result.andThen_ok, pinfo_eq h, Sem.run_pure]
theorem run_size {P : Program} {t : TypeId} {i : TypeInfo} (h : pinfo P t = some i) (w : World) : (sizeOf t).run P w = .ok i.size w := by
  simp [sizeOf, run_info, h]
theorem run_zero {P : Program} {t : TypeId} {i : TypeInfo} {z : Value} (h : pinfo P t = some i) (hz : i.zero = some z) (w : World) : (zeroValue t).run P w = .ok z w := by
  simp [zeroValue, run_info, h, hz]

/-- is a type a struct or an array? -/
def agg? (P : Program) (t : TypeId) : Option Bool :=
  match pund P t with
  | some (.struct _) => some true
  | some (.array _ _) => some true
  | some _ => some false
  | none => none
theorem run_agg {P : Program} {t : TypeId} {b : Bool} (h : agg? P t = some b) (w : World) : (isAgg t).run P w = .ok b w := by
  unfold agg? at h
  simp only [isAgg, Sem.run_bind, run_und]
  cases hu : pund P t with
  | none => simp [hu] at h
  | some d => cases d <;> simp [hu] at h <;> subst h <;> simp
def size? (P : Program) (t : TypeId) : Option Nat :=
  match pinfo P t with
  | some i => some i.size
  | none => none
theorem run_size? {P : Program} {t : TypeId} {n : Nat} (h : size? P t = some n) (w : World) : (sizeOf t).run P w = .ok n w := by
  unfold size? at h
  cases hi : pinfo P t with
  | none => simp [hi] at h
  | some i => simp [hi] at h; subst h; exact run_size hi w

variable {P : Program} {G : Nat} {E : Nat → Option Value} {σ : Emb}

/-! ### Lists of values -/
def VL (E : Nat → Option Value) (σ : Emb) (l l' : List Value) : Prop := l.length = l'.length ∧ ∀ (i : Nat) v v', l[i]? = some v → l'[i]? = some v' → VR E σ v v'
theorem VL.nil : VL E σ [] [] := ⟨rfl, fun i v v' h => by simp at h⟩
theorem VL.cons {v v' : Value} {l l' : List Value} (h : VR E σ v v') (hl : VL E σ l l') : VL E σ (v :: l) (v' :: l') := by
  refine ⟨by simp [hl.1], fun i u u' hu hu' => ?_⟩
  cases i with
  | zero => simp at hu hu'; rw [← hu, ← hu']; exact h
  | succ i => simp at hu hu'; exact hl.2 i u u' hu hu'
theorem VL.get {l l' : List Value} (h : VL E σ l l') {i : Nat} {v : Value} (hv : l[i]? = some v) : ∃ v', l'[i]? = some v' ∧ VR E σ v v' := by
  have hi : i < l.length := (List.getElem?_eq_some_iff.1 hv).1
  have hi' : i < l'.length := h.1 ▸ hi
  exact ⟨l'[i], List.getElem?_eq_getElem hi', h.2 i v _ hv (List.getElem?_eq_getElem hi')⟩
theorem VL.of_array {a a' : Array Value} (ha : a.size = a'.size) (hA : ∀ (i : Nat) v v', a[i]? = some v → a'[i]? = some v' → VR E σ v v') : VL E σ a.toList a'.toList :=
  ⟨by simpa using ha, fun i v v' h h' => hA i v v' (by simpa using h) (by simpa using h')⟩
theorem VL.agg {l l' : List Value} (h : VL E σ l l') : VR E σ (.agg l.toArray) (.agg l'.toArray) := .agg (by simpa using h.1) (fun i v v' a b => h.2 i v v' (by simpa using a) (by simpa using b))
theorem VL.tuple {l l' : List Value} (h : VL E σ l l') : VR E σ (.tuple l.toArray) (.tuple l'.toArray) := .tuple (by simpa using h.1) (fun i v v' a b => h.2 i v v' (by simpa using a) (by simpa using b))
theorem VL.mono {σ' : Emb} (hσ : Le σ σ') {l l' : List Value} (h : VL E σ l l') : VL E σ' l l' := ⟨h.1, fun i v v' a b => (h.2 i v v' a b).mono hσ⟩
theorem VL.append {a a' b b' : List Value} (h : VL E σ a a') (k : VL E σ b b') : VL E σ (a ++ b) (a' ++ b') := by
  refine ⟨by simp [h.1, k.1], fun i v v' hv hv' => ?_⟩
  by_cases hi : i < a.length
  · rw [List.getElem?_append_left hi] at hv
    rw [List.getElem?_append_left (h.1 ▸ hi)] at hv'
    exact h.2 i v v' hv hv'
  · rw [List.getElem?_append_right (by omega)] at hv
    rw [List.getElem?_append_right (by have := h.1; omega)] at hv'
    rw [← h.1] at hv'
    exact k.2 _ v v' hv hv'
theorem VL.uncons {v : Value} {l l' : List Value} (h : VL E σ (v :: l) l') : ∃ v' r', l' = v' :: r' ∧ VR E σ v v' ∧ VL E σ l r' := by
  cases l' with
  | nil => have := h.1; simp at this
  | cons v' r' => exact ⟨v', r', rfl, h.2 0 v v' rfl rfl, by have := h.1; simpa using this, fun i a b ha hb => h.2 (i + 1) a b (by simpa using ha) (by simpa using hb)⟩
theorem VL.of_nil {l' : List Value} (h : VL E σ [] l') : l' = [] := List.length_eq_zero_iff.1 h.1.symm
theorem VL.lits : ∀ {l : List Value}, l.all lit = true → VL E σ l l := by
  intro l h
  refine ⟨rfl, fun i v v' hv hv' => ?_⟩
  rw [hv] at hv'; injection hv' with e; subst e
  exact .lit (List.all_eq_true.1 h v (List.mem_of_getElem? hv))
theorem VR.cellsL {v v' : Value} (h : VR E σ v v') : VL E σ v.cells.toList v'.cells.toList := VL.of_array h.cells.1 h.cells.2

/-! ### Operands -/
def flat : Value → Bool
  | .agg cs => cs.toList.all lit
  | .tuple cs => cs.toList.all lit
  | v => lit v
theorem flat_vr {v : Value} (h : flat v = true) : VR E σ v v := by
  have key : ∀ cs : Array Value, cs.toList.all lit = true → VL E σ cs.toList cs.toList := fun cs h => VL.lits h
  cases v with
  | agg cs => have := (key cs h).agg; simpa using this
  | tuple cs => have := (key cs h).tuple; simpa using this
  | _ => exact .lit h
def evl (G : Nat) (tv : Nat → Option Value) : Operand → Option Value
  | .tmp t => tv t
  | .const v => match flat v with
    | true => some v
    | false => none
  | .global g => match Nat.ble (g + 1) G with
    | true => some (.pointer (some ⟨g, 0, none⟩))
    | false => none
  | .func f => some (.func (.func f) #[] #[])
theorem evl_sound {tv : Nat → Option Value} {ρ : Operand → Value} (hg : ∀ g, g < G → σ g = some g) (ht : ∀ t v, tv t = some v → VR E σ v (ρ (.tmp t)))
    (hc : ∀ v, ρ (.const v) = v) (hG : ∀ g, ρ (.global g) = .pointer (some ⟨g, 0, none⟩)) (hf : ∀ f, ρ (.func f) = .func (.func f) #[] #[])
    {x : Operand} {v : Value} (h : evl G tv x = some v) : VR E σ v (ρ x) := by
  cases x with
  | tmp t => exact ht t v h
  | const u =>
    simp only [evl] at h
    split at h
    · rename_i hu; injection h with h; subst h; rw [hc]; exact flat_vr hu
    · cases h
  | global g =>
    simp only [evl] at h
    split at h
    · rename_i hu; injection h with h; subst h; rw [hG]; exact .ptr (hg g (ble_true hu))
    · cases h
  | func f => simp only [evl] at h; injection h with h; subst h; rw [hf]; exact .func rfl (by intro i v v' h; simp at h) rfl (by intro i v v' h; simp at h)
def evls (ev : Operand → Option Value) : List Operand → Option (List Value)
  | [] => some []
  | x :: xs => match ev x with
    | none => none
    | some v => match evls ev xs with
      | none => none
      | some vs => some (v :: vs)
theorem evls_sound {ev : Operand → Option Value} {ρ : Operand → Value} (hev : ∀ x u, ev x = some u → VR E σ u (ρ x)) :
    ∀ {xs : List Operand} {vs : List Value}, evls ev xs = some vs → VL E σ vs (xs.map ρ) := by
  intro xs
  induction xs with
  | nil => intro vs h; simp only [evls] at h; injection h with h; subst h; exact VL.nil
  | cons x xs ih =>
    intro vs h
    simp only [evls] at h
    split at h
    · cases h
    · rename_i v hv
      split at h
      · cases h
      · rename_i us hus
        injection h with h; subst h
        exact VL.cons (hev x v hv) (ih hus)

/-! ### Whole numbers -/
def awrap (k : IntKind) (n : Int) : Int :=
  match k, n with
  | .i64, .ofNat m => match Nat.ble 9223372036854775808 m with
    | true => k.wrap n
    | false => .ofNat m
  | .i64, .negSucc m => match Nat.ble 9223372036854775808 m with
    | true => k.wrap n
    | false => .negSucc m
  | _, _ => k.wrap n
theorem wrap_i64 {n : Int} (h1 : -9223372036854775808 ≤ n) (h2 : n < 9223372036854775808) : IntKind.i64.wrap n = n := by
  unfold IntKind.wrap
  have e : ((2:Int) ^ IntKind.i64.bits) = 18446744073709551616 := by rfl
  have e2 : ((2:Int)^(IntKind.i64.bits - 1)) = 9223372036854775808 := by rfl
  have e3 : IntKind.i64.signed = true := rfl
  simp only [e, e2, e3, Bool.true_and, decide_eq_true_eq]
  split <;> omega
theorem awrap_eq (k : IntKind) (n : Int) : awrap k n = k.wrap n := by
  unfold awrap
  split
  · split
    · rfl
    · rename_i m hm
      have hm := ble_false hm
      exact (wrap_i64 (by simp only [Int.ofNat_eq_natCast]; omega) (by simp only [Int.ofNat_eq_natCast]; omega)).symm
  · split
    · rfl
    · rename_i m hm
      have hm := ble_false hm
      exact (wrap_i64 (by omega) (by omega)).symm
  · rfl
def ieq (a b : Int) : Bool := decide (a = b)
def kindEq : IntKind → IntKind → Bool
  | .i8, .i8 | .i16, .i16 | .i32, .i32 | .i64, .i64 | .u8, .u8 | .u16, .u16 | .u32, .u32 | .u64, .u64 => true
  | _, _ => false
theorem kindEq_eq {a b : IntKind} (h : kindEq a b = true) : a = b := by cases a <;> cases b <;> first | rfl | simp [kindEq] at h

def abits (k : IntKind) (f : (n : Nat) → BitVec n → BitVec n → BitVec n) (x y : Int) : Value :=
  .int k (k.wrap (f k.bits (BitVec.ofInt k.bits x) (BitVec.ofInt k.bits y)).toNat)
def aint (op : BinOp) (k : IntKind) (a b : Int) : Option Value :=
  match op with
  | .add => some (.int k (awrap k (a + b)))
  | .sub => some (.int k (awrap k (a - b)))
  | .mul => some (.int k (awrap k (a * b)))
  | .quo => match ieq b 0 with
    | true => none
    | false => some (.int k (awrap k (a.tdiv b)))
  | .rem => match ieq b 0 with
    | true => none
    | false => some (.int k (a.tmod b))
  | .and => some (abits k (fun _ x y => x &&& y) a b)
  | .or => some (abits k (fun _ x y => x ||| y) a b)
  | .xor => some (abits k (fun _ x y => x ^^^ y) a b)
  | .andNot => some (abits k (fun _ x y => x &&& ~~~y) a b)
  | .eql => some (.bool (a == b))
  | .neq => some (.bool (a != b))
  | .lss => some (.bool (decide (a < b)))
  | .leq => some (.bool (decide (a ≤ b)))
  | .gtr => some (.bool (decide (a > b)))
  | .geq => some (.bool (decide (a ≥ b)))
  | .shl => none
  | .shr => none
def ashift (op : BinOp) (k : IntKind) (a b : Int) : Option Value :=
  match decide (b < 0) with
  | true => none
  | false => match op with
    | .shl => some (.int k (awrap k (a * 2 ^ (min b.toNat k.bits))))
    | .shr => some (.int k (a.fdiv (2 ^ (min b.toNat k.bits))))
    | _ => none
def isShift : BinOp → Bool
  | .shl | .shr => true
  | _ => false
def astr (op : BinOp) (a b : ByteArray) : Option Value :=
  match op with
  | .add => match Nat.ble (a.size + b.size) 1000000 with
    | true => some (.string ⟨(a.data.toList ++ b.data.toList).toArray⟩)
    | false => none
  | .eql => some (.bool (a.data.toList == b.data.toList))
  | .neq => some (.bool (!(a.data.toList == b.data.toList)))
  | .lss => some (.bool (Op.bytesLess a.data.toList b.data.toList))
  | .geq => some (.bool (!Op.bytesLess a.data.toList b.data.toList))
  | .leq => some (.bool (Op.bytesLess a.data.toList b.data.toList || (a.data.toList == b.data.toList)))
  | .gtr => some (.bool (!(Op.bytesLess a.data.toList b.data.toList || (a.data.toList == b.data.toList))))
  | _ => none
/-- equality, where the memory is not asked -/
def aeq (P : Program) (t : TypeId) (x y : Value) : Option Bool :=
  match pund P t, x, y with
  | some .bool, .bool a, .bool b => some (a == b)
  | some (.pointer _), .pointer none, .pointer b => some b.isNone
  | some (.pointer _), .pointer (some _), .pointer none => some false
  | some (.interface _), .nilIface, .iface _ _ => some false
  | some (.interface _), .iface _ _, .nilIface => some false
  | some (.interface _), .nilIface, .nilIface => some true
  | some (.slice _), .slice none _ _, .slice b _ _ => some b.isNone
  | some (.slice _), .slice (some _) _ _, .slice none _ _ => some false
  | some (.map _ _), .map none, .map b => some b.isNone
  | some (.map _ _), .map (some _), .map none => some false
  | some (.func _ _ _), .nilFunc, .nilFunc => some true
  | some (.func _ _ _), .nilFunc, .func _ _ _ => some false
  | some (.func _ _ _), .func _ _ _, .nilFunc => some false
  | _, _, _ => none
def isCon : Operand → Bool
  | .const _ => true
  | _ => false
def abin (P : Program) (op : BinOp) (t : TypeId) (con : Bool) (x y : Value) : Option Value :=
  match x, y with
  | .int k a, .int k' b => match isShift op with
    | true => ashift op k a b
    | false => match kindEq k k' with
      | true => aint op k a b
      | false => none
  | .string a, .string b => astr op a b
  | .nilIface, .nilIface => match con with
    | true => match op with
      | .eql => match aeq P t .nilIface .nilIface with
        | some r => some (.bool r)
        | none => none
      | .neq => match aeq P t .nilIface .nilIface with
        | some r => some (.bool (!r))
        | none => none
      | _ => none
    | false => none
  | .agg _, _ => none
  | .float _ _, _ => none
  | .complex _ _ _, _ => none
  | x, y => match op with
    | .eql => match aeq P t x y with
      | some r => some (.bool r)
      | none => none
    | .neq => match aeq P t x y with
      | some r => some (.bool (!r))
      | none => none
    | _ => none

theorem run_aeq {t : TypeId} {x y x' y' : Value} {r : Bool} (h : aeq P t x y = some r) (hx : VR E σ x x') (hy : VR E σ y y') (w : World) :
    (Op.equal t x' y').run P w = .ok r w := by
  unfold aeq at h
  unfold Op.equal Op.maxDepth
  rw [show (10000 : Nat) = 9999 + 1 from rfl]
  unfold Op.equalIn
  simp only [Sem.run_bind, run_und]
  split at h <;> (try (cases h)) <;> rename_i hu <;> simp only [hu, Result.andThen_ok] <;>
    (cases hx <;> (try (rename_i q; simp [lit] at q)) <;> cases hy <;> (try (rename_i q; simp [lit] at q)) <;> simp_all)

theorem run_aint {op : BinOp} {t : TypeId} {k : IntKind} {a b : Int} {v : Value} (hs : isShift op = false) (h : aint op k a b = some v) (w : World) :
    (binOp op t (.int k a) (.int k b)).run P w = .ok v w := by
  unfold aint at h
  cases op <;> simp only [Option.some.injEq, reduceCtorEq] at h <;> (try subst h) <;>
    first
      | (simp [binOp, Op.intArith, awrap_eq]; done)
      | (simp [binOp, Op.intCmp]; done)
      | (simp [binOp, Op.intBits, abits]; done)
      | (simp [isShift] at hs; done)
      | skip
  all_goals
    split at h
    · cases h
    · rename_i hb
      injection h with h; subst h
      have hb : b ≠ 0 := by simpa [ieq] using hb
      simp [binOp, Op.intDiv, hb, awrap_eq]

theorem run_astr {op : BinOp} {t : TypeId} {a b : ByteArray} {v : Value} (h : astr op a b = some v) (w : World) :
    (binOp op t (.string a) (.string b)).run P w = .ok v w := by
  unfold astr at h
  cases op <;> simp only [Option.some.injEq, reduceCtorEq] at h <;> (try subst h) <;>
    first
      | (simp [binOp, Op.stringOp, ByteArray.toList_eq]; done)
      | skip
  split at h
  · rename_i hb
    have hb := ble_true hb
    injection h with h; subst h
    have h1 : ¬ (((a.size + b.size : Nat) : Int) > IntKind.i64.max) := by
      have : IntKind.i64.max = 9223372036854775807 := by rfl
      rw [this]; omega
    have e : (a ++ b : ByteArray) = ⟨(a.data.toList ++ b.data.toList).toArray⟩ := by
      apply ByteArray.ext
      simp
    simp only [binOp, Op.stringOp, Sem.run_ite, if_neg h1, Sem.run_pure, e]
  · cases h

theorem run_ashift {op : BinOp} {t : TypeId} {k k' : IntKind} {a b : Int} {v : Value} (h : ashift op k a b = some v) (w : World) :
    (binOp op t (.int k a) (.int k' b)).run P w = .ok v w := by
  unfold ashift at h
  split at h
  · cases h
  · rename_i hb
    have hb : ¬ (b < 0) := by simpa using hb
    cases op <;> simp only [Option.some.injEq, reduceCtorEq] at h <;> subst h <;> simp [binOp, Op.shift, hb, awrap_eq]

theorem guard_int (op : BinOp) (t : TypeId) (ox oy : Operand) (k k' : IntKind) (a b : Int) (w : World) : (eqGuard op t ox oy (.int k a) (.int k' b)).run P w = .ok () w := by
  unfold eqGuard; cases op <;> simp
theorem guard_str (op : BinOp) (t : TypeId) (ox oy : Operand) (a b : ByteArray) (w : World) : (eqGuard op t ox oy (.string a) (.string b)).run P w = .ok () w := by
  unfold eqGuard; cases op <;> simp
theorem guard_nil (op : BinOp) (t : TypeId) (ox oy : Operand) (h : (isCon ox || isCon oy) = true) (w : World) : (eqGuard op t ox oy .nilIface .nilIface).run P w = .ok () w := by
  unfold eqGuard
  cases ox <;> cases oy <;> simp [isCon] at h <;> cases op <;> simp
theorem guard_aeq {t : TypeId} {op : BinOp} {ox oy : Operand} {x y x' y' : Value} {r : Bool} (h : aeq P t x y = some r) (hx : VR E σ x x') (hy : VR E σ y y') (hn : x = .nilIface → y = .nilIface → False) (w : World) :
    (eqGuard op t ox oy x' y').run P w = .ok () w := by
  unfold aeq at h
  unfold eqGuard
  split at h <;> (try (cases h)) <;>
    (cases hx <;> (try (rename_i q; simp [lit] at q)) <;> cases hy <;> (try (rename_i q; simp [lit] at q)) <;> cases op <;> simp_all)
theorem run_beq {t : TypeId} {x y x' y' : Value} {r : Bool} (h : aeq P t x y = some r) (hx : VR E σ x x') (hy : VR E σ y y') (w : World) :
    (binOp .eql t x' y').run P w = .ok (.bool r) w ∧ (binOp .neq t x' y').run P w = .ok (.bool (!r)) w := by
  have e := run_aeq h hx hy w
  unfold aeq at h
  split at h <;> (try (cases h)) <;>
    (cases hx <;> (try (rename_i q; simp [lit] at q)) <;> cases hy <;> (try (rename_i q; simp [lit] at q)) <;> simp_all [binOp])

theorem run_abin {op : BinOp} {t : TypeId} {ox oy : Operand} {x y x' y' v : Value} (h : abin P op t (isCon ox || isCon oy) x y = some v) (hx : VR E σ x x') (hy : VR E σ y y') (w : World) :
    (do eqGuard op t ox oy x' y'; binOp op t x' y' : Sem Value).run P w = .ok v w := by
  unfold abin at h
  split at h
  · obtain rfl := hx.int_inv
    obtain rfl := hy.int_inv
    simp only [Sem.run_bind, guard_int, Result.andThen_ok]
    split at h
    · exact run_ashift h w
    · rename_i hs
      split at h
      · rename_i hk
        obtain rfl := kindEq_eq hk
        exact run_aint hs h w
      · cases h
  · obtain rfl := hx.string_inv
    obtain rfl := hy.string_inv
    simp only [Sem.run_bind, guard_str, Result.andThen_ok]
    exact run_astr h w
  · have e1 : x' = .nilIface := by cases hx; rfl
    have e2 : y' = .nilIface := by cases hy; rfl
    subst e1 e2
    split at h
    · rename_i hcon
      simp only [Sem.run_bind, guard_nil op t ox oy hcon, Result.andThen_ok]
      cases op <;> simp only [reduceCtorEq] at h <;> split at h <;> (try cases h) <;> rename_i r hr
      · exact (run_beq hr hx hy w).1
      · exact (run_beq hr hx hy w).2
    · cases h
  · cases h
  · cases h
  · cases h
  · rename_i n1 n2 n3 n4 n5 n6
    cases op <;> simp only [reduceCtorEq] at h <;> split at h <;> (try cases h) <;> rename_i r hr <;>
      simp only [Sem.run_bind, guard_aeq hr hx hy n6, Result.andThen_ok]
    · exact (run_beq hr hx hy w).1
    · exact (run_beq hr hx hy w).2

/-- a value's bool; unary operators -/
def aun (op : UnOp) (x : Value) : Option Value :=
  match op, x with
  | .not, .bool b => some (.bool (!b))
  | .neg, .int k n => some (.int k (awrap k (0 - n)))
  | .xor, .int k n => some (abits k (fun _ x y => x ^^^ y) (if k.signed then -1 else k.max) n)
  | _, _ => none
theorem run_aun {op : UnOp} {x x' v : Value} (h : aun op x = some v) (hx : VR E σ x x') (w : World) : (Op.unary op x').run P w = .ok v w := by
  unfold aun at h
  split at h <;> (try cases h)
  · obtain rfl := hx.bool_inv; rfl
  · obtain rfl := hx.int_inv; simp [Op.unary, Op.intArith, awrap_eq]
  · obtain rfl := hx.int_inv; simp [Op.unary, Op.intBits, abits]

def aconv (P : Program) (s d : TypeId) (x : Value) : Option Value :=
  match pund P s, pund P d, x with
  | some _, some (.int k), .int _ n => some (.int k (awrap k n))
  | some _, some .string, .int _ n => some (.string (Utf8.encode n))
  | some _, some .string, .string a => some (.string a)
  | _, _, _ => none
theorem run_aconv {s d : TypeId} {x x' v : Value} (h : aconv P s d x = some v) (hx : VR E σ x x') (w : World) : (convert s d x').run P w = .ok v w := by
  unfold aconv at h
  split at h <;> (try cases h) <;> rename_i h1 h2
  · obtain rfl := hx.int_inv; simp [convert, run_und, h1, h2, Conv.intToInt, awrap_eq]
  · obtain rfl := hx.int_inv; simp [convert, run_und, h1, h2, Conv.intToString]
  · obtain rfl := hx.string_inv; simp [convert, run_und, h1, h2]

def aS2ap (P : Program) (arr : TypeId) (x : Value) : Option Value :=
  match pund P arr, x with
  | some (.array n _), .slice (some ⟨b, o, none⟩) len _ => match Nat.ble n len with
    | true => some (.pointer (some ⟨b, o, none⟩))
    | false => none
  | _, _ => none
theorem run_aS2ap {arr : TypeId} {x x' v : Value} (h : aS2ap P arr x = some v) (hx : VR E σ x x') : ∃ v', VR E σ v v' ∧ ∀ w, (Instr.arrayAt arr x').run P w = .ok v' w := by
  unfold aS2ap at h
  split at h
  · rename_i hu
    split at h
    · rename_i hb
      injection h with h; subst h
      have hb := ble_true hb
      cases hx with
      | lit q => simp [lit] at q
      | slice hs hc => exact ⟨_, .ptr hs, fun w => by simp [Instr.arrayAt, run_und, hu, Nat.not_lt.2 hb]⟩
    · cases h
  · cases h

def aMkIface (P : Program) (t : TypeId) (x : Value) : Option Value :=
  match pund P t with
  | some (.interface _) => none
  | some _ => some (.iface t x)
  | none => none
theorem run_aMkIface {t : TypeId} {x x' v : Value} (h : aMkIface P t x = some v) (hx : VR E σ x x') : ∃ v', VR E σ v v' ∧ ∀ w, (Instr.makeInterface t x').run P w = .ok v' w := by
  unfold aMkIface at h
  cases hu : pund P t with
  | none => simp [hu] at h
  | some d =>
    cases d <;> simp [hu] at h <;> subst h <;> exact ⟨_, .iface hx, fun w => by simp [Instr.makeInterface, run_und, hu]⟩

end
end Go.Ev
