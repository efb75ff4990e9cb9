/- Ev: the evaluator is right: code. -/
import Derived.Test.YtnaodplcionlhaaGreatDoorEvM
import Derived.ScopeJumps
namespace Go.Ev
noncomputable section
set_option linter.unusedVariables false
set_option linter.unusedSimpArgs false
variable {E : Nat → Option Value} {W0 : World} {C : Ctx} {rec_ : Task → Option Res}

theorem onCode_some {r : Option Res} {k : Ex → Trie Value → List ADef → AH → Option Res} {x : Res} (h : onCode r k = some x) : ∃ ex tm df h', r = some (.code ex tm df h') ∧ k ex tm df h' = some x := by
  cases r with
  | none => cases h
  | some s => cases s with
    | code ex tm df h' => exact ⟨ex, tm, df, h', rfl, h⟩
    | ret v h' => cases h
    | pan v h' => cases h
theorem ifNormal_some {r n : Option Res} {ex : Ex} {x : Res} (h : ifNormal r n ex = some x) : (ex = .normal ∧ n = some x) ∨ (ex ≠ .normal ∧ r = some x) := by
  cases ex <;> first | exact .inl ⟨rfl, h⟩ | exact .inr ⟨(by intro hh; cases hh), h⟩
theorem isExit_some {id : Nat} {r n : Option Res} {ex : Ex} {x : Res} (h : isExit id r n ex = some x) : (ex = .exit id ∧ n = some x) ∨ (ex ≠ .exit id ∧ r = some x) := by
  cases ex with
  | exit id' =>
    have h' : @Bool.rec (fun _ => Option Res) r n (Nat.beq id' id) = some x := h
    generalize hb : Nat.beq id' id = b at h'
    cases b with
    | true => exact .inl ⟨by rw [Trie.beq_true hb], h'⟩
    | false => exact .inr ⟨fun hh => Trie.beq_false hb (by injection hh), h'⟩
  | _ => exact .inr ⟨(by intro hh; cases hh), h⟩
theorem condK_some {v : Option Value} {a b : Option Res} {x : Res} (h : condK v a b = some x) : (v = some (.bool true) ∧ a = some x) ∨ (v = some (.bool false) ∧ b = some x) := by
  unfold condK at h
  split at h
  · rename_i t
    cases t with
    | true => exact .inl ⟨rfl, h⟩
    | false => exact .inr ⟨rfl, h⟩
  · cases h
theorem ExR.normal {σ : Emb} {e : Exit} (h : ExR E σ .normal e) : e = .normal := by cases e <;> first | rfl | exact h.elim
theorem ExR.not_normal {σ : Emb} {ex : Ex} {e : Exit} (h : ExR E σ ex e) (hn : ex ≠ .normal) : e ≠ .normal := by
  intro he; subst he; cases ex <;> first | exact hn rfl | exact h.elim
theorem then_of_not {next : Act → World → Prop} {Q : Exit → Act → World → Prop} {e : Exit} {a : Act} {w : World} (he : e ≠ .normal) (h : Q e a w) : Exit.then next Q e a w := by
  cases e <;> first | exact absurd rfl he | exact h

section
variable {P : Program} {F : Fence} {Q : Exit → Act → World → Prop}
theorem iter_of {body : Code} {a : Act} {w : World} (h : body.wpIn F 0 C.P (Exit.then (IterWp C F body Q) Q) a w) : IterWp C F body Q a w ∧ (Code.loop body).wpIn F 0 C.P Q a w := by
  have go : ∀ (b : Frame) (k : List Item) (cs : List Frame), b.roundOf = F.round → F.fn b.fn → F.room (cs.length + 1 + 0) →
      ∃ e a' w', Q e a' w' ∧ ArrivesIn (Machine.fenced C.P F) C.P (lone (b.atR a (.code body :: .inLoop body :: k)) cs w) b k cs e a' w' := by
    intro b k cs hro hb hr
    obtain ⟨e, a₁, w₁, hq, harr⟩ := h b (.inLoop body :: k) cs hro hb hr
    cases e with
    | normal =>
      obtain ⟨e₂, a₂, w₂, hq₂, harr₂⟩ := hq b k cs hro hb hr
      exact ⟨e₂, a₂, w₂, hq₂, .of_steps harr harr₂⟩
    | exit id => exact ⟨_, a₁, w₁, hq, .pass (x := .inLoop body) rfl (fun _ _ => .inl (by simp)) harr⟩
    | goto l => exact ⟨_, a₁, w₁, hq, .pass (x := .inLoop body) rfl (fun _ _ => .inl (by simp)) harr⟩
    | ret => exact ⟨_, a₁, w₁, hq, .pass (x := .inLoop body) rfl (fun _ _ => .inl (by simp)) harr⟩
    | panic ch => exact ⟨_, a₁, w₁, hq, .pass (x := .inLoop body) rfl (fun _ _ => .inl (by simp)) harr⟩
    | outgrown => exact ⟨_, a₁, w₁, hq, .pass (x := .inLoop body) rfl (fun _ _ => .inl (by simp)) harr⟩
  constructor
  · intro b k cs hro hb hr
    obtain ⟨e, a', w', hq, harr⟩ := go b k cs hro hb hr
    exact ⟨e, a', w', hq, .of_steps (.one (fenced_calm (n := 0) hb hr rfl) stepR_inLoop) harr⟩
  · intro b k cs hro hb hr
    obtain ⟨e, a', w', hq, harr⟩ := go b k cs hro hb hr
    exact ⟨e, a', w', hq, .of_steps (.one (fenced_calm (n := 0) hb hr rfl) stepR_loop) harr⟩

theorem stepR_scope {b : Frame} {a : Act} {k : List Item} {cs : List Frame} {w : World} {c : Code} : step P (lone (b.atR a (.code (.scope c) :: k)) cs w) = .next (lone (b.atR a (.code c :: .inScope c :: k)) cs w) :=
  step_lone_go (by simp [stepG, stepG.exec, Frame.atR])
theorem stepR_inScope {b : Frame} {a : Act} {k : List Item} {cs : List Frame} {w : World} {c : Code} : step P (lone (b.atR a (.inScope c :: k)) cs w) = .next (lone (b.atR a k) cs w) :=
  step_lone_go (by simp [stepG, stepG.exec, Frame.atR])

def Exit.inScope (body : Code) (again : Code → Act → World → Prop) (Q : Exit → Act → World → Prop) : Exit → Act → World → Prop
  | .goto l, a, w => match findLabel body l with
    | some rest => again rest a w
    | none => Q (.goto l) a w
  | e, a, w => Q e a w
theorem scope_of {body c : Code} {a : Act} {w : World} (h : c.wpIn F 0 C.P (Exit.inScope body (fun rest a w => ScopeWp C F body rest Q a w) Q) a w) : ScopeWp C F body c Q a w := by
  intro b k cs hro hb hr
  obtain ⟨e, a₁, w₁, hq, harr⟩ := h b (.inScope body :: k) cs hro hb hr
  cases e with
  | normal => exact ⟨.normal, a₁, w₁, hq, StepsIn.trans harr (.one (fenced_calm (n := 0) hb hr rfl) stepR_inScope)⟩
  | exit id =>
    have hx : exitTo id (.inScope body :: k) = exitTo id k := by simp [exitTo]
    exact ⟨.exit id, a₁, w₁, hq, fun k' hk => harr.1 k' (by rw [hx]; exact hk), fun hr' hk => harr.2 hr' (by rw [hx]; exact hk)⟩
  | goto l =>
    cases hf : findLabel body l with
    | some rest =>
      simp only [Exit.inScope, hf] at hq
      have hg : gotoIn l (.inScope body :: k) = some (.code rest :: .inScope body :: k) := by simp [gotoIn, hf]
      obtain ⟨e₂, a₂, w₂, hq₂, harr₂⟩ := hq b k cs hro hb hr
      exact ⟨e₂, a₂, w₂, hq₂, .of_steps (harr.1 _ hg) harr₂⟩
    | none =>
      simp only [Exit.inScope, hf] at hq
      have hx : gotoIn l (.inScope body :: k) = gotoIn l k := by simp [gotoIn, hf]
      exact ⟨.goto l, a₁, w₁, hq, fun k' hk => harr.1 k' (by rw [hx]; exact hk), fun hr' hk => harr.2 hr' (by rw [hx]; exact hk)⟩
  | ret => exact ⟨.ret, a₁, w₁, hq, harr⟩
  | panic ch => exact ⟨.panic ch, a₁, w₁, hq, harr⟩
  | outgrown => exact ⟨.outgrown, a₁, w₁, hq, harr⟩
theorem wpIn_scope_of {body : Code} {a : Act} {w : World} (h : ScopeWp C F body body Q a w) : (Code.scope body).wpIn F 0 C.P Q a w := by
  intro b k cs hro hb hr
  obtain ⟨e, a', w', hq, harr⟩ := h b k cs hro hb hr
  exact ⟨e, a', w', hq, .of_steps (.one (fenced_calm (n := 0) hb hr rfl) stepR_scope) harr⟩
end

theorem evScope_sound (hrec : ∀ t r, rec_ t = some r → TaskOK E W0 C t r) {rd : Option Nat} {nt : Nat} {body c : Code} {tm : Trie Value} {df : List ADef} {h : AH} {r : Res} (e : evScope C rec_ rd nt body c tm df h = some r) : TaskOK E W0 C (.scope rd nt body c tm df h) r := by
  unfold evScope at e
  split at e
  · rename_i l tm1 df1 h1 h0
    split at e
    · rename_i rest hf
      have k1 := hrec _ _ h0
      have k2 := hrec _ _ e
      cases r with
      | code ex tm' df' h' =>
        intro σ w a rd' s hrd
        refine scope_of (wpIn_mono (k1 σ w a rd' s hrd) fun e' a1 w1 p => ?_)
        obtain ⟨σ1, hx, hle, hex, s1⟩ := p
        cases e' <;> first | exact hex.elim | skip
        rename_i j
        have : l = j := hex
        subst this
        simp only [Exit.inScope, hf]
        intro b k cs hro hb hr
        obtain ⟨e2, a2, w2, hq, harr⟩ := k2 σ1 w1 a1 rd' s1 (hrd.mono (Ext.le s.hr hx)) b k cs hro hb hr
        exact ⟨e2, a2, w2, hq.trans hx hle, harr⟩
      | ret v h2 => exact k2.elim
      | pan v h2 => exact k2.elim
    · rename_i hf
      injection e with e; subst e
      have k1 := hrec _ _ h0
      intro σ w a rd' s hrd
      refine scope_of (wpIn_mono (k1 σ w a rd' s hrd) fun e' a1 w1 p => ?_)
      have p0 := p
      obtain ⟨σ1, hx, hle, hex, s1⟩ := p
      cases e' <;> first | exact hex.elim | skip
      rename_i j
      have : l = j := hex
      subst this
      simp only [Exit.inScope, hf]
      exact p0
  · rename_i hno
    have k1 := hrec _ _ e
    cases r with
    | code ex tm' df' h' =>
      intro σ w a rd' s hrd
      refine scope_of (wpIn_mono (k1 σ w a rd' s hrd) fun e' a1 w1 p => ?_)
      obtain ⟨σ1, hx, hle, hex, s1⟩ := p
      cases e' with
      | goto l =>
        cases ex <;> first | exact hex.elim | skip
        exact absurd e (by intro hh; exact hno _ _ _ _ hh)
      | _ => exact ⟨σ1, hx, hle, hex, s1⟩
    | ret v h2 => exact k1.elim
    | pan v h2 => exact k1.elim

theorem loop_sound (hrec : ∀ t r, rec_ t = some r → TaskOK E W0 C t r) {rd : Option Nat} {nt : Nat} {b : Code} {tm : Trie Value} {df : List ADef} {h : AH} {r : Res} (e : loopK rec_ rd nt b (rec_ (.code rd nt b tm df h)) = some r) :
    TaskOK E W0 C (.iter rd nt b tm df h) r ∧ TaskOK E W0 C (.code rd nt (.loop b) tm df h) r := by
  obtain ⟨ex, tm1, df1, h1, h0, e⟩ := onCode_some e
  have k1 := hrec _ _ h0
  rcases ifNormal_some e with ⟨rfl, e⟩ | ⟨hne, e⟩
  · have k2 := hrec _ _ e
    cases r with
    | code ex tm' df' h' =>
      have key : ∀ σ w a rd', SR E W0 C σ nt tm df h a w → RD σ rd rd' → b.wpIn (FW rd') 0 C.P (Exit.then (IterWp C (FW rd') b (Post E W0 C σ nt h ex tm' df' h')) (Post E W0 C σ nt h ex tm' df' h')) a w := by
        intro σ w a rd' s hrd
        refine wpIn_mono (k1 σ w a rd' s hrd) fun e' a1 w1 p => ?_
        obtain ⟨σ1, hx, hle, hex, s1⟩ := p
        obtain rfl := hex.normal
        intro b k cs hro hb hr
        obtain ⟨e2, a2, w2, hq, harr⟩ := k2 σ1 w1 a1 rd' s1 (hrd.mono (Ext.le s.hr hx)) b k cs hro hb hr
        exact ⟨e2, a2, w2, hq.trans hx hle, harr⟩
      exact ⟨fun σ w a rd' s hrd => (iter_of (key σ w a rd' s hrd)).1, fun σ w a rd' s hrd => (iter_of (key σ w a rd' s hrd)).2⟩
    | ret v h2 => exact k2.elim
    | pan v h2 => exact k2.elim
  · rw [h0] at e; injection e with e; subst e
    have key : ∀ σ w a rd', SR E W0 C σ nt tm df h a w → RD σ rd rd' → b.wpIn (FW rd') 0 C.P (Exit.then (IterWp C (FW rd') b (Post E W0 C σ nt h ex tm1 df1 h1)) (Post E W0 C σ nt h ex tm1 df1 h1)) a w := by
      intro σ w a rd' s hrd
      refine wpIn_mono (k1 σ w a rd' s hrd) fun e' a1 w1 p => ?_
      have p0 := p
      obtain ⟨σ1, hx, hle, hex, s1⟩ := p
      exact then_of_not (hex.not_normal hne) p0
    exact ⟨fun σ w a rd' s hrd => (iter_of (key σ w a rd' s hrd)).1, fun σ w a rd' s hrd => (iter_of (key σ w a rd' s hrd)).2⟩

end
end Go.Ev
