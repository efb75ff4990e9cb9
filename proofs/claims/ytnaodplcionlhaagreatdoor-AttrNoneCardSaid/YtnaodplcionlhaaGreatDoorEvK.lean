/- Ev: the evaluator is right: one operation. -/
import Derived.Test.YtnaodplcionlhaaGreatDoorEvJ
namespace Go.Ev
noncomputable section
set_option linter.unusedVariables false
set_option linter.unusedSimpArgs false

def FW : Option Nat → Fence
  | none => Fence.wide
  | some l => Fence.wide.inRound l
theorem FW_round (rd : Option Nat) : (FW rd).round = rd := by cases rd <;> rfl
theorem FW_fn (rd : Option Nat) (f : FuncId) : (FW rd).fn f := by cases rd <;> trivial
theorem FW_room (rd : Option Nat) (n : Nat) : (FW rd).room n := by cases rd <;> exact fun _ h => by simp [FW, Fence.wide, Fence.inRound] at h
theorem FW_depth (rd : Option Nat) : (FW rd).depth = none := by cases rd <;> rfl
theorem FW_calls {rd : Option Nat} {n : Nat} {P : Program} {f : FuncId} {args : Array Value} {w : World} {R : Ending → World → Prop} (h : CallsIn Fence.wide n P f args w R) : CallsIn (FW rd) n P f args w R := by
  cases rd <;> exact h
theorem FW_round_in {rd : Option Nat} {n : Nat} {P : Program} {l : Nat} {f : FuncId} {tmps : Array Value} {assign body : Code} {w : World} {R : Ending → World → Prop} (h : RoundIn Fence.wide n P l f tmps assign body w R) : RoundIn (FW rd) n P l f tmps assign body w R := by
  cases rd <;> exact h

/-- a deferred call, here and there -/
def DR (E : Nat → Option Value) (σ : Emb) : ADef → Deferred → Prop
  | .call g args, d => ∃ cap args', d = { target := .fn (.func g) cap, args := args' } ∧ VL E σ args (args' ++ cap).toList
  | .mark b, d => ∃ b', σ b = some b' ∧ d = { target := .collected b', args := #[] }
def DL (E : Nat → Option Value) (σ : Emb) : List ADef → List Deferred → Prop
  | [], [] => True
  | a :: l, d :: m => DR E σ a d ∧ DL E σ l m
  | _, _ => False
theorem DR.mono {E : Nat → Option Value} {σ σ' : Emb} (h : Le σ σ') {a : ADef} {d : Deferred} (k : DR E σ a d) : DR E σ' a d := by
  cases a with
  | call g args => obtain ⟨cap, args', e, hv⟩ := k; exact ⟨cap, args', e, hv.mono h⟩
  | mark b => obtain ⟨b', e, hd⟩ := k; exact ⟨b', (h _ _ e).1, hd⟩
theorem DL.mono {E : Nat → Option Value} {σ σ' : Emb} (h : Le σ σ') : ∀ {l : List ADef} {m : List Deferred}, DL E σ l m → DL E σ' l m := by
  intro l
  induction l with
  | nil => intro m k; cases m with
    | nil => trivial
    | cons _ _ => exact k.elim
  | cons a l ih => intro m k; cases m with
    | nil => exact k.elim
    | cons d m => exact ⟨k.1.mono h, ih k.2⟩

section
variable (E : Nat → Option Value) (W0 : World) (C : Ctx)
/-- a frame's state, and the memory's -/
structure SR (σ : Emb) (nt : Nat) (tm : Trie Value) (df : List ADef) (h : AH) (a : Act) (w : World) : Prop where
  tr : TR E σ nt tm a.tmps
  dl : DL E σ df a.defers
  hr : HR E C.P C.G W0 σ h w
def ExR (σ : Emb) : Ex → Exit → Prop
  | .normal, .normal => True
  | .exit i, .exit j => i = j
  | .goto i, .goto j => i = j
  | .ret, .ret => True
  | .panic v, .panic ch => ∃ v', ch = [{ v := v', recovered := false }] ∧ VR E σ v v'
  | _, _ => False
def RD (σ : Emb) : Option Nat → Option Nat → Prop
  | none, none => True
  | some l, some l' => σ l = some l'
  | _, _ => False
def Post (σ : Emb) (nt : Nat) (h : AH) (ex : Ex) (tm' : Trie Value) (df' : List ADef) (h' : AH) : Exit → Act → World → Prop :=
  fun e a' w' => ∃ σ', Ext h.next σ σ' ∧ h.next ≤ h'.next ∧ ExR E σ' ex e ∧ SR E W0 C σ' nt tm' df' h' a' w'
def PostRet (σ : Emb) (h : AH) (v : Value) (h' : AH) : Ending → World → Prop :=
  fun e w' => ∃ σ' v', e = .returned v' ∧ Ext h.next σ σ' ∧ h.next ≤ h'.next ∧ VR E σ' v v' ∧ HR E C.P C.G W0 σ' h' w'
def PostPan (σ : Emb) (h : AH) (v : Value) (h' : AH) : Ending → World → Prop :=
  fun e w' => ∃ σ' v', e = .panicked [{ v := v', recovered := false }] ∧ Ext h.next σ σ' ∧ h.next ≤ h'.next ∧ VR E σ' v v' ∧ HR E C.P C.G W0 σ' h' w'
def ScopeWp (F : Fence) (body c : Code) (Q : Exit → Act → World → Prop) (a : Act) (w : World) : Prop :=
  ∀ (b : Frame) (k : List Item) (cs : List Frame), b.roundOf = F.round → F.fn b.fn → F.room (cs.length + 1 + 0) →
    ∃ e a' w', Q e a' w' ∧ ArrivesIn (Machine.fenced C.P F) C.P (lone (b.atR a (.code c :: .inScope body :: k)) cs w) b k cs e a' w'
def IterWp (F : Fence) (body : Code) (Q : Exit → Act → World → Prop) (a : Act) (w : World) : Prop :=
  ∀ (b : Frame) (k : List Item) (cs : List Frame), b.roundOf = F.round → F.fn b.fn → F.room (cs.length + 1 + 0) →
    ∃ e a' w', Q e a' w' ∧ ArrivesIn (Machine.fenced C.P F) C.P (lone (b.atR a (.inLoop body :: k)) cs w) b k cs e a' w'
def TaskOK : Task → Res → Prop
  | .code rd nt c tm df h, .code ex tm' df' h' => ∀ σ w a rd', SR E W0 C σ nt tm df h a w → RD σ rd rd' → c.wpIn (FW rd') 0 C.P (Post E W0 C σ nt h ex tm' df' h') a w
  | .scope rd nt body c tm df h, .code ex tm' df' h' => ∀ σ w a rd', SR E W0 C σ nt tm df h a w → RD σ rd rd' → ScopeWp C (FW rd') body c (Post E W0 C σ nt h ex tm' df' h') a w
  | .iter rd nt c tm df h, .code ex tm' df' h' => ∀ σ w a rd', SR E W0 C σ nt tm df h a w → RD σ rd rd' → IterWp C (FW rd') c (Post E W0 C σ nt h ex tm' df' h') a w
  | .call f args h, .ret v h' => ∀ σ w args', HR E C.P C.G W0 σ h w → VL E σ args args' → (C.fns.get f).any (·.body.isSome) = true ∧ CallsIn Fence.wide 0 C.P f args'.toArray w (PostRet E W0 C σ h v h')
  | .call f args h, .pan v h' => ∀ σ w args', HR E C.P C.G W0 σ h w → VL E σ args args' → (C.fns.get f).any (·.body.isSome) = true ∧ CallsIn Fence.wide 0 C.P f args'.toArray w (PostPan E W0 C σ h v h')
  | .round l args h, .ret v h' => ∀ σ w l' args', HR E C.P C.G W0 σ h w → σ l = some l' → VL E σ args args' →
      ∃ fn tmps asg body, (Instr.yield l' args'.toArray).run C.P w = .ok (.round l' fn tmps asg body) w ∧ RoundIn Fence.wide 0 C.P l' fn tmps asg body w (PostRet E W0 C σ h v h')
  | _, _ => False
def CallDid (σ : Emb) (h : AH) (w : World) (g : FuncId) (args' : List Value) (v : Value) (h' : AH) : Prop :=
  (∃ σ' v' w', (callFunc g args'.toArray).run C.P w = .ok (.value v') w' ∧ Ext h.next σ σ' ∧ h.next ≤ h'.next ∧ VR E σ' v v' ∧ HR E C.P C.G W0 σ' h' w') ∨
  ((callFunc g args'.toArray).run C.P w = .ok (.enter g args'.toArray) w ∧ CallsIn Fence.wide 0 C.P g args'.toArray w (PostRet E W0 C σ h v h'))
structure COK : Prop where
  fns : ∀ f fn, C.fns.get f = some fn → C.P.funcs[f]? = some fn
  names : ∀ f fn, C.fns.get f = some fn → fn.body.isSome = true → (fn.name == "runtime.NumGoroutine") = false
  meth : ∀ t name g, C.meth t name = some g → ∀ v w, (method (C.P.types.size + Made.depth) t v name).run C.P w = .ok (g, v) w
  stub : ∀ g s args h v h', C.stub g = some s → s args h = some (v, h') → ∀ σ w args', HR E C.P C.G W0 σ h w → VL E σ args args' → CallDid E W0 C σ h w g args' v h'
end

variable {E : Nat → Option Value} {W0 : World} {C : Ctx}

theorem SR.ev {σ : Emb} {nt : Nat} {tm : Trie Value} {df : List ADef} {h : AH} {a : Act} {w : World} (s : SR E W0 C σ nt tm df h a w) : ∀ x u, evl C.G (tval tm) x = some u → VR E σ u (a.eval x) := by
  intro x u hx
  refine evl_sound s.hr.glob (fun t v ht => ?_) (fun v => rfl) (fun g => rfl) (fun f => rfl) hx
  have := s.tr.2 t
  unfold tval at ht
  cases hg : tm.get t with
  | none => rw [hg] at ht this; simp only [] at ht; injection ht with ht; subst ht; exact this
  | some v' => rw [hg] at ht this; simp only [] at ht; injection ht with ht; subst ht; exact this

theorem TR.put {σ : Emb} {nt : Nat} {tm tm' : Trie Value} {d : Option Tmp} {v v' : Value} {a : Act} (s : TR E σ nt tm a.tmps) (hv : VR E σ v v') (e : tput nt tm d v = some tm') : TR E σ nt tm' (a.put d v').tmps := by
  cases d with
  | none => simp only [tput] at e; injection e with e; subst e; exact s
  | some t =>
    simp only [tput] at e
    split at e
    · rename_i hb
      have hb := ble_true hb
      refine ⟨by simp [Act.put, s.1], fun x => ?_⟩
      rw [Trie.get_put _ _ _ _ _ e]
      by_cases hx : x = t
      · subst hx
        rw [if_pos rfl]
        have : x < a.tmps.size := by rw [s.1]; omega
        simp [Act.put, this]; exact hv
      · rw [if_neg hx]
        have := s.2 x
        simpa [Act.put, Array.getElem?_setIfInBounds_ne (fun e => hx e.symm)] using this
    · cases e

theorem run_callFunc (ok : COK E W0 C) {g : FuncId} (h : (C.fns.get g).any (·.body.isSome) = true) (args : Array Value) (w : World) : (callFunc g args).run C.P w = .ok (.enter g args) w := by
  cases hf : C.fns.get g with
  | none => rw [hf] at h; cases h
  | some fn =>
    rw [hf] at h
    have hb : fn.body.isSome = true := by simpa using h
    have hn := ok.names g fn hf hb
    have hp := ok.fns g fn hf
    have hnone : fn.body.isNone = false := by cases hbb : fn.body <;> simp_all
    simp only [callFunc, Sem.run_bind, run_program, Result.andThen_ok, hp, hn, hnone, Bool.false_eq_true, if_false, Sem.run_pure]

theorem target_fn {ev : Operand → Option Value} {ρ : Operand → Value} {σ : Emb} (ok : COK E W0 C) (hev : ∀ x u, ev x = some u → VR E σ u (ρ x)) {c : Call} {ty : TypeId} {g : FuncId} {args : List Value} (e : target C ev c = some (.fn g args)) :
    ∃ args', VL E σ args args' ∧ ∀ w, (do let d ← resolve ρ c ty; invoke d.target d.args : Sem Next).run C.P w = (callFunc g args'.toArray).run C.P w := by
  unfold target at e
  split at e
  · cases e
  · rename_i as has
    have hv := evls_sound hev has
    have eargs : c.args.map ρ = (c.args.toList.map ρ).toArray := by apply Array.ext'; simp
    split at e
    · cases e
    · rename_i f hc
      split at e
      · rename_i g' first captured hf
        injection e with e; injection e with e1 e2; subst e1 e2
        have hr := hev f _ hf
        cases hr' : ρ f <;> rw [hr'] at hr <;> (try (cases hr; done))
        rename_i fn first' captured'
        cases hr with
        | lit q => simp [lit] at q
        | func ha hA hcc hC =>
          refine ⟨first'.toList ++ c.args.toList.map ρ ++ captured'.toList, (VL.of_array ha hA |>.append hv).append (VL.of_array hcc hC), fun w => ?_⟩
          simp only [resolve, hc, hr', Deferred.ofValue, Sem.run_bind, Sem.run_pure, Result.andThen_ok, invoke, eargs]
          congr 2
          apply Array.ext'; simp
      · cases e
      · cases e
    · rename_i r name hc
      split at e
      · rename_i t v hr0
        split at e
        · rename_i g' hm
          injection e with e; injection e with e1 e2; subst e1 e2
          have hr := hev r _ hr0
          cases hr' : ρ r <;> rw [hr'] at hr <;> (try (cases hr; done))
          · rename_i t' v'
            cases hr with
            | lit q => simp [lit] at q
            | iface hvv =>
              refine ⟨v' :: c.args.toList.map ρ, VL.cons hvv hv, fun w => ?_⟩
              have hmm := ok.meth _ _ _ hm v' w
              have e0 : (#[Value.iface t v'] ++ (c.args.toList.map ρ).toArray)[0]? = some (Value.iface t v') := by simp
              simp only [resolve, hc, hr', Sem.run_bind, Sem.run_pure, Result.andThen_ok, invoke, eargs, e0, callMethod, run_program, hmm]
              congr 2
              apply Array.ext'; simp; exact List.take_of_length_le (by simp)
        · cases e
      · cases e

theorem target_yield {ev : Operand → Option Value} {ρ : Operand → Value} {σ : Emb} (hev : ∀ x u, ev x = some u → VR E σ u (ρ x)) {c : Call} {ty : TypeId} {l : Nat} {args : List Value} (e : target C ev c = some (.yield l args)) :
    ∃ l' args', σ l = some l' ∧ VL E σ args args' ∧ ∀ w, (do let d ← resolve ρ c ty; invoke d.target d.args : Sem Next).run C.P w = (Instr.yield l' args'.toArray).run C.P w := by
  unfold target at e
  split at e
  · cases e
  · rename_i as has
    have hv := evls_sound hev has
    have eargs : c.args.map ρ = (c.args.toList.map ρ).toArray := by apply Array.ext'; simp
    split at e
    · cases e
    · rename_i f hc
      split at e
      · cases e
      · rename_i l0 first captured hf
        injection e with e; injection e with e1 e2; subst e1 e2
        have hr := hev f _ hf
        cases hr' : ρ f <;> rw [hr'] at hr <;> (try (cases hr; done))
        cases hr with
        | lit q => simp [lit] at q
        | yield hl =>
          refine ⟨_, c.args.toList.map ρ, hl, hv, fun w => ?_⟩
          simp only [resolve, hc, hr', Deferred.ofValue, Sem.run_bind, Sem.run_pure, Result.andThen_ok, invoke, eargs]
          congr 2
          apply Array.ext'; simp
      · cases e
    · split at e
      · split at e <;> cases e
      · cases e

end
end Go.Ev
