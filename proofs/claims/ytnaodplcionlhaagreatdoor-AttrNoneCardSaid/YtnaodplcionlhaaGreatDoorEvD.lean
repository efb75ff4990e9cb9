/- Ev: composites, assertions; all operations that neither read nor write the memory, in one. -/
import Derived.Test.YtnaodplcionlhaaGreatDoorEvC
namespace Go.Ev
noncomputable section
set_option linter.unusedVariables false
set_option linter.unusedSimpArgs false
variable {P : Program} {G : Nat} {E : Nat → Option Value} {σ : Emb}

def fplaces (P : Program) : List Field → Option (List (Nat × Nat))
  | [] => some []
  | f :: r => match size? P f.type with
    | none => none
    | some n => match fplaces P r with
      | none => none
      | some l => some ((f.offset, n) :: l)
theorem run_fplaces : ∀ (fs : List Field) (l : List (Nat × Nat)), fplaces P fs = some l → ∀ w, (fs.mapM (m := Sem) fun f => do pure (f.offset, ← sizeOf f.type)).run P w = .ok l w := by
  intro fs
  induction fs with
  | nil => intro l h w; simp only [fplaces] at h; injection h with h; subst h; simp
  | cons f r ih =>
    intro l h w
    simp only [fplaces] at h
    split at h
    · cases h
    · rename_i n hn
      split at h
      · cases h
      · rename_i l' hl
        injection h with h; subst h
        simp only [List.mapM_cons, Sem.run_bind, run_size? hn, Result.andThen_ok, Sem.run_pure, ih l' hl]
def zero? (P : Program) (t : TypeId) : Option Value :=
  match pinfo P t with
  | none => none
  | some i => match i.zero with
    | none => none
    | some z => match z.cells.toList.all lit with
      | true => some z
      | false => none
theorem run_zero? {t : TypeId} {z : Value} (h : zero? P t = some z) (w : World) : (zeroValue t).run P w = .ok z w := by
  unfold zero? at h
  split at h
  · cases h
  · rename_i i hi
    split at h
    · cases h
    · rename_i z' hz
      split at h
      · injection h with h; subst h; exact run_zero hi hz w
      · cases h
theorem zero?_lits {t : TypeId} {z : Value} (h : zero? P t = some z) : VL E σ z.cells.toList z.cells.toList := by
  unfold zero? at h
  split at h
  · cases h
  · split at h
    · cases h
    · split at h
      · rename_i hl; injection h with h; subst h; exact VL.lits hl
      · cases h
theorem vr_of_cells {z : Value} (h : z.cells.toList.all lit = true) : VR E σ z z := by
  cases z with
  | agg cs => have := (VL.lits (E := E) (σ := σ) h).agg; simpa [Value.cells] using this
  | _ => first
    | exact .lit (by simpa [Value.cells] using h)
    | (simp [Value.cells, lit] at h)
theorem zero?_vr {t : TypeId} {z : Value} (h : zero? P t = some z) : VR E σ z z := by
  unfold zero? at h
  split at h
  · cases h
  · split at h
    · cases h
    · split at h
      · rename_i hl2; injection h with h; subst h
        exact vr_of_cells hl2
      · cases h

def abuild (P : Program) (t : TypeId) (parts : List (Nat × Value)) : Option Value :=
  match zero? P t with
  | none => none
  | some z => match pund P t with
    | some (.struct fs) => match fplaces P fs.toList with
      | none => none
      | some pl => match afill (fun i => pl[i]?) z.cells.toList parts with
        | some cells => some (.agg cells.toArray)
        | none => none
    | some (.array _ e) => match size? P e with
      | none => none
      | some n => match afill (fun i => some (i * n, n)) z.cells.toList parts with
        | some cells => some (.agg cells.toArray)
        | none => none
    | _ => none
theorem run_abuild {t : TypeId} {parts parts' : List (Nat × Value)} {v : Value} (h : abuild P t parts = some v) (hp : PL E σ parts parts') :
    ∃ v', VR E σ v v' ∧ ∀ w, (Instr.build t parts'.toArray).run P w = .ok v' w := by
  unfold abuild at h
  split at h
  · cases h
  · rename_i z hz
    split at h
    · rename_i fs hu
      split at h
      · cases h
      · rename_i pl hpl
        split at h
        · rename_i cells hc
          injection h with h; subst h
          obtain ⟨out, h1, h2⟩ := run_afill hc hp (zero?_lits hz)
          refine ⟨.agg out, by have := h2.agg; simpa using this, fun w => ?_⟩
          have hm : (fs.mapM (m := Sem) fun f => do pure (f.offset, ← sizeOf f.type)).run P w = .ok pl.toArray w := by
            rw [Array.mapM_eq_mapM_toList]
            simp only [Sem.run_map, run_fplaces _ _ hpl, Result.andThen_ok]
          have h1' : Instr.fill (fun x => pl.toArray[x]?) z.cells parts' = some out := by
            have e : (fun (x : Nat) => pl.toArray[x]?) = (fun i => pl[i]?) := by funext i; simp
            rw [e]; simpa using h1
          simp only [Instr.build, Sem.run_bind, run_zero? hz, Result.andThen_ok, run_und, hu, hm, h1', Sem.run_pure]
        · cases h
    · rename_i n e hu
      split at h
      · cases h
      · rename_i sz hsz
        split at h
        · rename_i cells hc
          injection h with h; subst h
          obtain ⟨out, h1, h2⟩ := run_afill hc hp (zero?_lits hz)
          refine ⟨.agg out, by have := h2.agg; simpa using this, fun w => ?_⟩
          have h1' : Instr.fill (fun i => some (i * sz, sz)) z.cells parts' = some out := by simpa using h1
          simp only [Instr.build, Sem.run_bind, run_zero? hz, Result.andThen_ok, run_und, hu, run_size? hsz, h1', Sem.run_pure]
        · cases h
    · cases h

def atassert (P : Program) (x : Value) (t : TypeId) (ok : Bool) : Option Value :=
  match pund P t with
  | some (.interface _) => none
  | none => none
  | some _ => match x with
    | .iface u v => match Nat.beq u t with
      | true => match ok with
        | true => some (.tuple #[v, .bool true])
        | false => some v
      | false => match ok with
        | true => match zero? P t with
          | some z => some (.tuple #[z, .bool false])
          | none => none
        | false => none
    | .nilIface => match ok with
      | true => match zero? P t with
        | some z => some (.tuple #[z, .bool false])
        | none => none
      | false => none
    | _ => none
theorem VR.pair {v v' : Value} (h : VR E σ v v') (b : Bool) : VR E σ (.tuple #[v, .bool b]) (.tuple #[v', .bool b]) := by
  have := (VL.cons h (VL.cons (VR.bool b) VL.nil)).tuple
  simpa using this
theorem run_atassert {x x' v : Value} {xt t : TypeId} {ok : Bool} (h : atassert P x t ok = some v) (hx : VR E σ x x') : ∃ v', VR E σ v v' ∧ ∀ w, (Instr.typeAssert x' xt t ok).run P w = .ok v' w := by
  unfold atassert at h
  split at h
  · cases h
  · cases h
  · rename_i d hn hu
    split at h
    · rename_i u v0
      cases hx with
      | lit q => simp [lit] at q
      | iface hv =>
        rename_i v0'
        split at h
        · rename_i hb
          have hb := Trie.beq_true hb
          subst hb
          cases ok with
          | true =>
            simp only [] at h; injection h with h; subst h
            refine ⟨_, hv.pair true, fun w => ?_⟩
            cases d <;> simp [Instr.typeAssert, run_und, hu] at hn ⊢
          | false =>
            simp only [] at h; injection h with h; subst h
            refine ⟨_, hv, fun w => ?_⟩
            cases d <;> simp [Instr.typeAssert, run_und, hu] at hn ⊢
        · rename_i hb
          have hb := Trie.beq_false hb
          cases ok with
          | true =>
            simp only [] at h
            split at h
            · rename_i z hz
              injection h with h; subst h
              refine ⟨_, (zero?_vr hz).pair false, fun w => ?_⟩
              cases d <;> simp [Instr.typeAssert, run_und, hu, hb, run_zero? hz] at hn ⊢
            · cases h
          | false => cases h
    · have e : x' = .nilIface := by cases hx; rfl
      subst e
      cases ok with
      | true =>
        simp only [] at h
        split at h
        · rename_i z hz
          injection h with h; subst h
          refine ⟨_, (zero?_vr hz).pair false, fun w => ?_⟩
          cases d <;> simp [Instr.typeAssert, run_und, hu, run_zero? hz] at hn ⊢
        · cases h
      | false => cases h
    · cases h

def aextract (x : Value) (i : Nat) : Option Value :=
  match x with
  | .tuple vs => vs.toList[i]?
  | _ => none
theorem run_aextract {x x' v : Value} {i : Nat} (h : aextract x i = some v) (hx : VR E σ x x') : ∃ v', VR E σ v v' ∧ ∀ w, (Instr.extract x' i).run P w = .ok v' w := by
  unfold aextract at h
  split at h
  · cases hx with
    | lit q => simp [lit] at q
    | tuple ha hA =>
      rename_i a'
      obtain ⟨v', h1, h2⟩ := (VL.of_array ha hA).get h
      have h1 : a'[i]? = some v' := by simpa using h1
      exact ⟨v', h2, fun w => by simp [Instr.extract, h1]⟩
  · cases h

def anil (x : Value) : Option Value :=
  match x with
  | .pointer (some a) => some (.pointer (some a))
  | .iface t v => some (.iface t v)
  | .func (.func f) a c => some (.func (.func f) a c)
  | .func (.yield l) a c => some (.func (.yield l) a c)
  | _ => none
theorem run_anil {o : Oper} {x : Operand} {ρ : Operand → Value} {v : Value} {xv : Value} (ho : o.op = .nilCheck x) (h : anil xv = some v) (hx : VR E σ xv (ρ x)) :
    ∃ v', VR E σ v v' ∧ ∀ w, (execOp ρ o).run P w = .ok (.value v') w := by
  unfold anil at h
  refine ⟨ρ x, ?_, fun w => ?_⟩
  · split at h <;> (try cases h) <;> exact hx
  · split at h <;> (try cases h) <;> (generalize hy : ρ x = y at hx; cases hx <;> (try (rename_i q; simp [lit] at q)) <;> simp [execOp, ho, hy])

def alen (P : Program) (t : TypeId) (x : Value) : Option Value :=
  match pund P t, x with
  | some .string, .string s => some (.int .i64 s.data.toList.length)
  | some (.slice _), .slice _ n _ => some (.int .i64 n)
  | some (.array n _), _ => some (.int .i64 n)
  | some (.pointer a), _ => match pund P a with
    | some (.array n _) => some (.int .i64 n)
    | _ => none
  | _, _ => none
theorem run_alen {t ty : TypeId} {ts : Array TypeId} {x x' v : Value} (ht : ts[0]? = some t) (h : alen P t x = some v) (hx : VR E σ x x') (w : World) : (Builtin.len_ ts ty #[x']).run P w = .ok v w := by
  unfold alen at h
  split at h
  · rename_i hu; injection h with h; subst h; obtain rfl := hx.string_inv
    simp [Builtin.len_, ht, run_und, hu, goInt]
  · rename_i hu; injection h with h; subst h
    cases hx with
    | lit q => simp [Builtin.len_, ht, run_und, hu, goInt]
    | slice hs hc => simp [Builtin.len_, ht, run_und, hu, goInt]
    | empty => simp [Builtin.len_, ht, run_und, hu, goInt]
  · rename_i hu; injection h with h; subst h
    simp [Builtin.len_, ht, run_und, hu, goInt]
  · rename_i hu
    split at h
    · rename_i hu2; injection h with h; subst h
      simp [Builtin.len_, ht, run_und, hu, hu2, goInt]
    · cases h
  · cases h

def amin : List Value → Option Value
  | [.int k a, .int _ b] => some (.int k (if b < a then b else a))
  | _ => none
def amax : List Value → Option Value
  | [.int k a, .int _ b] => some (.int k (if b > a then b else a))
  | _ => none
theorem run_amin {ts : Array TypeId} {ty : TypeId} {xs xs' : List Value} {v : Value} (h : amin xs = some v) (hx : VL E σ xs xs') (w : World) : (Builtin.min_ ts ty xs'.toArray).run P w = .ok v w := by
  unfold amin at h
  split at h
  · injection h with h; subst h
    obtain ⟨a', r, rfl, ha, hr⟩ := hx.uncons
    obtain ⟨b', r2, rfl, hb, hr2⟩ := hr.uncons
    obtain rfl := hr2.of_nil
    obtain rfl := ha.int_inv
    obtain rfl := hb.int_inv
    simp [Builtin.min_, Builtin.min2]
  · cases h
theorem run_amax {ts : Array TypeId} {ty : TypeId} {xs xs' : List Value} {v : Value} (h : amax xs = some v) (hx : VL E σ xs xs') (w : World) : (Builtin.max_ ts ty xs'.toArray).run P w = .ok v w := by
  unfold amax at h
  split at h
  · injection h with h; subst h
    obtain ⟨a', r, rfl, ha, hr⟩ := hx.uncons
    obtain ⟨b', r2, rfl, hb, hr2⟩ := hr.uncons
    obtain rfl := hr2.of_nil
    obtain rfl := ha.int_inv
    obtain rfl := hb.int_inv
    simp [Builtin.max_, Builtin.max2]
  · cases h

theorem abin_lit {op : BinOp} {t : TypeId} {c : Bool} {x y v : Value} (h : abin P op t c x y = some v) : lit v = true := by
  unfold abin at h
  split at h
  · split at h
    · unfold ashift at h
      (repeat' split at h) <;> first | (cases h; done) | (injection h with h; subst h; rfl)
    · split at h
      · unfold aint at h
        (repeat' split at h) <;> first | (cases h; done) | (injection h with h; subst h; rfl)
      · cases h
  · unfold astr at h
    (repeat' split at h) <;> first | (cases h; done) | (injection h with h; subst h; rfl)
  · (repeat' split at h) <;> first | (cases h; done) | (injection h with h; subst h; rfl)
  · cases h
  · cases h
  · cases h
  · (repeat' split at h) <;> first | (cases h; done) | (injection h with h; subst h; rfl)

def evparts (ev : Operand → Option Value) : List (Nat × Operand) → Option (List (Nat × Value))
  | [] => some []
  | (i, x) :: r => match ev x with
    | none => none
    | some v => match evparts ev r with
      | none => none
      | some l => some ((i, v) :: l)
def ovl (ev : Operand → Option Value) : Option Operand → Option (Option Value)
  | none => some none
  | some x => match ev x with
    | none => none
    | some v => some (some v)
section
variable {ev : Operand → Option Value} {ρ : Operand → Value}
theorem evparts_sound (hev : ∀ x u, ev x = some u → VR E σ u (ρ x)) : ∀ {ps : List (Nat × Operand)} {l : List (Nat × Value)}, evparts ev ps = some l → PL E σ l (ps.map fun (i, x) => (i, ρ x)) := by
  intro ps
  induction ps with
  | nil => intro l h; simp only [evparts] at h; injection h with h; subst h; trivial
  | cons p r ih =>
    intro l h
    obtain ⟨i, x⟩ := p
    simp only [evparts] at h
    split at h
    · cases h
    · rename_i v hv
      split at h
      · cases h
      · rename_i l' hl
        injection h with h; subst h
        exact ⟨rfl, hev x v hv, ih hl⟩
theorem ovl_sound (hev : ∀ x u, ev x = some u → VR E σ u (ρ x)) {x : Option Operand} {v : Option Value} (h : ovl ev x = some v) : OV E σ v (x.map ρ) := by
  cases x with
  | none => simp only [ovl] at h; injection h with h; subst h; trivial
  | some x =>
    simp only [ovl] at h
    split at h
    · cases h
    · rename_i u hu; injection h with h; subst h; exact hev x u hu
end

def ev1 (ev : Operand → Option Value) (x : Operand) (k : Value → Option Value) : Option Value :=
  match ev x with
  | none => none
  | some v => k v
def ev2 (ev : Operand → Option Value) (x y : Operand) (k : Value → Value → Option Value) : Option Value :=
  match ev x with
  | none => none
  | some v => match ev y with
    | none => none
    | some u => k v u
theorem ev1_some {ev : Operand → Option Value} {x : Operand} {k : Value → Option Value} {r : Value} (h : ev1 ev x k = some r) : ∃ v, ev x = some v ∧ k v = some r := by
  unfold ev1 at h; split at h
  · cases h
  · exact ⟨_, by assumption, h⟩
theorem ev2_some {ev : Operand → Option Value} {x y : Operand} {k : Value → Value → Option Value} {r : Value} (h : ev2 ev x y k = some r) : ∃ v u, ev x = some v ∧ ev y = some u ∧ k v u = some r := by
  unfold ev2 at h; split at h
  · cases h
  · split at h
    · cases h
    · exact ⟨_, _, by assumption, by assumption, h⟩
def adryCall (P : Program) (ev : Operand → Option Value) (b : Builtin) (args : List Operand) (ts : List TypeId) : Option Value :=
  match b with
  | .len => match args, ts with
    | [x], t :: _ => ev1 ev x (alen P t)
    | _, _ => none
  | .min => match evls ev args with
    | none => none
    | some vs => amin vs
  | .max => match evls ev args with
    | none => none
    | some vs => amax vs
  | _ => none
/-- an operation that neither reads nor writes the memory -/
def adry (P : Program) (ev : Operand → Option Value) (op : Op) : Option Value :=
  match op with
  | .move x => ev x
  | .assign x => ev x
  | .pick c a b => match ev c with
    | some (.bool true) => ev a
    | some (.bool false) => ev b
    | _ => none
  | .build t ps => match evparts ev ps.toList with
    | none => none
    | some l => abuild P t l
  | .nilCheck x => ev1 ev x anil
  | .binOp op t x y _ => ev2 ev x y (abin P op t (isCon x || isCon y))
  | .unOp op _ x => ev1 ev x (aun op)
  | .convert s d x => ev1 ev x (aconv P s d)
  | .sliceToArrayPointer d x => ev1 ev x (aS2ap P d)
  | .makeInterface t x => ev1 ev x (aMkIface P t)
  | .makeFunc (.func f) first captured => match evls ev first.toList with
    | none => none
    | some a => match evls ev captured.toList with
      | none => none
      | some c => some (.func (.func f) a.toArray c.toArray)
  | .slice t x lo hi none => match ovl ev lo with
    | none => none
    | some l => match ovl ev hi with
      | none => none
      | some h => ev1 ev x fun v => aslice P t v l h
  | .fieldAddr t x f => ev1 ev x fun v => afieldAddr P t v f
  | .field t x f => ev1 ev x fun v => afield P t v f
  | .indexAddr t x i => ev2 ev x i (aindexAddr P t)
  | .index t x i => ev2 ev x i (aindex P t)
  | .typeAssert x _ t ok => ev1 ev x fun v => atassert P v t ok
  | .extract x i => ev1 ev x fun v => aextract v i
  | .call c => match c.callee with
    | .builtin b => adryCall P ev b c.args.toList c.argTypes.toList
    | _ => none
  | _ => none

theorem VL.func {f : FuncId} {a a' c c' : List Value} (ha : VL E σ a a') (hc : VL E σ c c') : VR E σ (.func (.func f) a.toArray c.toArray) (.func (.func f) a'.toArray c'.toArray) :=
  .func (by simpa using ha.1) (fun i v v' x y => ha.2 i v v' (by simpa using x) (by simpa using y)) (by simpa using hc.1) (fun i v v' x y => hc.2 i v v' (by simpa using x) (by simpa using y))

theorem adry_sound {o : Oper} {ev : Operand → Option Value} {ρ : Operand → Value} {v : Value} (hev : ∀ x u, ev x = some u → VR E σ u (ρ x)) (h : adry P ev o.op = some v) :
    ∃ v', VR E σ v v' ∧ ∀ w, (execOp ρ o).run P w = .ok (.value v') w := by
  unfold adry at h
  split at h
  · rename_i x ho
    exact ⟨ρ x, hev x v h, fun w => by simp [execOp, ho]⟩
  · rename_i x ho
    exact ⟨ρ x, hev x v h, fun w => by simp [execOp, ho]⟩
  · rename_i c a b ho
    split at h
    · rename_i hc
      have := (hev c _ hc).bool_inv
      exact ⟨ρ a, hev a v h, fun w => by simp [execOp, ho, this, asBool]⟩
    · rename_i hc
      have := (hev c _ hc).bool_inv
      exact ⟨ρ b, hev b v h, fun w => by simp [execOp, ho, this, asBool]⟩
    · cases h
  · rename_i t ps ho
    split at h
    · cases h
    · rename_i l hl
      obtain ⟨v', h1, h2⟩ := run_abuild h (evparts_sound hev hl)
      refine ⟨v', h1, fun w => ?_⟩
      have e : (ps.map fun (x : Nat × Operand) => match x with | (i, x) => (i, ρ x)) = (ps.toList.map fun (x : Nat × Operand) => match x with | (i, x) => (i, ρ x)).toArray := by apply Array.ext'; simp
      simp only [execOp, ho, Sem.run_bind, e, h2, Result.andThen_ok, Sem.run_pure]
  · rename_i x ho
    obtain ⟨a, ha, hk⟩ := ev1_some h
    exact run_anil ho hk (hev x a ha)
  · rename_i op t x y yt ho
    obtain ⟨a, b, ha, hb, hk⟩ := ev2_some h
    have hr := fun w => run_abin hk (hev x a ha) (hev y b hb) w
    refine ⟨v, ?_, fun w => ?_⟩
    · exact .lit (abin_lit hk)
    · have := hr w
      simp only [execOp, ho, Sem.run_bind] at this ⊢
      rw [this]; rfl
  · rename_i op t x ho
    obtain ⟨a, ha, hk⟩ := ev1_some h
    refine ⟨v, ?_, fun w => by simp [execOp, ho, run_aun hk (hev x a ha) w]⟩
    unfold aun at hk
    split at hk <;> (try cases hk) <;> exact .lit rfl
  · rename_i s d x ho
    obtain ⟨a, ha, hk⟩ := ev1_some h
    refine ⟨v, ?_, fun w => by simp [execOp, ho, run_aconv hk (hev x a ha) w]⟩
    unfold aconv at hk
    split at hk <;> (try cases hk) <;> exact .lit rfl
  · rename_i d x ho
    obtain ⟨a, ha, hk⟩ := ev1_some h
    obtain ⟨v', h1, h2⟩ := run_aS2ap hk (hev x a ha)
    exact ⟨v', h1, fun w => by simp [execOp, ho, h2]⟩
  · rename_i t x ho
    obtain ⟨a, ha, hk⟩ := ev1_some h
    obtain ⟨v', h1, h2⟩ := run_aMkIface hk (hev x a ha)
    exact ⟨v', h1, fun w => by simp [execOp, ho, h2]⟩
  · rename_i f first captured ho
    split at h
    · cases h
    · rename_i a ha
      split at h
      · cases h
      · rename_i c hc
        injection h with h; subst h
        refine ⟨_, VL.func (evls_sound hev ha) (evls_sound hev hc), fun w => ?_⟩
        have e1 : first.map ρ = (first.toList.map ρ).toArray := by apply Array.ext'; simp
        have e2 : captured.map ρ = (captured.toList.map ρ).toArray := by apply Array.ext'; simp
        simp [execOp, ho, Instr.makeFunc, e1, e2]
  · rename_i t x lo hi ho
    split at h
    · cases h
    · rename_i l hl
      split at h
      · cases h
      · rename_i hh hhh
        obtain ⟨a, ha, hk⟩ := ev1_some h
        obtain ⟨v', h1, h2⟩ := run_aslice hk (hev x a ha) (ovl_sound hev hl) (ovl_sound hev hhh)
        exact ⟨v', h1, fun w => by simp [execOp, ho, h2]⟩
  · rename_i t x f ho
    obtain ⟨a, ha, hk⟩ := ev1_some h
    obtain ⟨v', h1, h2⟩ := run_afieldAddr hk (hev x a ha)
    exact ⟨v', h1, fun w => by simp [execOp, ho, h2]⟩
  · rename_i t x f ho
    obtain ⟨a, ha, hk⟩ := ev1_some h
    obtain ⟨v', h1, h2⟩ := run_afield hk (hev x a ha)
    exact ⟨v', h1, fun w => by simp [execOp, ho, h2]⟩
  · rename_i t x i ho
    obtain ⟨a, b, ha, hb, hk⟩ := ev2_some h
    obtain ⟨v', h1, h2⟩ := run_aindexAddr hk (hev x a ha) (hev i b hb)
    exact ⟨v', h1, fun w => by simp [execOp, ho, h2]⟩
  · rename_i t x i ho
    obtain ⟨a, b, ha, hb, hk⟩ := ev2_some h
    obtain ⟨v', h1, h2⟩ := run_aindex hk (hev x a ha) (hev i b hb)
    exact ⟨v', h1, fun w => by simp [execOp, ho, h2]⟩
  · rename_i x xt t ok ho
    obtain ⟨a, ha, hk⟩ := ev1_some h
    obtain ⟨v', h1, h2⟩ := run_atassert (xt := xt) hk (hev x a ha)
    exact ⟨v', h1, fun w => by simp [execOp, ho, h2]⟩
  · rename_i x i ho
    obtain ⟨a, ha, hk⟩ := ev1_some h
    obtain ⟨v', h1, h2⟩ := run_aextract (P := P) hk (hev x a ha)
    exact ⟨v', h1, fun w => by simp [execOp, ho, h2]⟩
  · rename_i c ho
    split at h
    · rename_i b hb
      have eargs : c.args.map ρ = (c.args.toList.map ρ).toArray := by apply Array.ext'; simp
      unfold adryCall at h
      split at h
      · split at h
        · rename_i x t ts hx hts
          obtain ⟨a, ha, hk⟩ := ev1_some h
          have h0 : c.argTypes[0]? = some t := by rw [← Array.getElem?_toList, hts]; rfl
          refine ⟨v, ?_, fun w => ?_⟩
          · unfold alen at hk
            split at hk <;> (try cases hk) <;> (try exact .lit rfl)
            split at hk <;> (try cases hk) <;> exact .lit rfl
          · have := run_alen (ty := o.type) h0 hk (hev x a ha) w
            simp [execOp, ho, resolve, hb, invoke, builtin, eargs, hx, this]
        · cases h
      · split at h
        · cases h
        · rename_i vs hvs
          refine ⟨v, ?_, fun w => ?_⟩
          · unfold amin at h
            split at h <;> (try cases h) <;> exact .lit rfl
          · have := run_amin (P := P) (ts := c.argTypes) (ty := o.type) h (evls_sound hev hvs) w
            simp [execOp, ho, resolve, hb, invoke, builtin, eargs, this]
      · split at h
        · cases h
        · rename_i vs hvs
          refine ⟨v, ?_, fun w => ?_⟩
          · unfold amax at h
            split at h <;> (try cases h) <;> exact .lit rfl
          · have := run_amax (P := P) (ts := c.argTypes) (ty := o.type) h (evls_sound hev hvs) w
            simp [execOp, ho, resolve, hb, invoke, builtin, eargs, this]
      · cases h
    · cases h
  · cases h

end
end Go.Ev
