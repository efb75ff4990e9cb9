/- Ev: the evaluator is right: operations, regions. -/
import Derived.Test.YtnaodplcionlhaaGreatDoorEvK
namespace Go.Ev
noncomputable section
set_option linter.unusedVariables false
set_option linter.unusedSimpArgs false
variable {E : Nat → Option Value} {W0 : World} {C : Ctx} {rec_ : Task → Option Res}

def OpPost (E : Nat → Option Value) (W0 : World) (C : Ctx) (σ : Emb) (h : AH) (rd' : Option Nat) (o : Oper) (a : Act) (w : World) : OpRes → Prop
  | .val v df' h' => ∀ (next : Act → World → Prop) (Q : Exit → Act → World → Prop), (∀ σ' v' w' ds, Ext h.next σ σ' → h.next ≤ h'.next → VR E σ' v v' → HR E C.P C.G W0 σ' h' w' → DL E σ' df' ds → next ({ a with defers := ds }.put o.dst v') w') → o.wpIn (FW rd') 0 C.P a w next Q
  | .pan v h' => ∀ (next : Act → World → Prop) (Q : Exit → Act → World → Prop), (∀ σ' v' w', Ext h.next σ σ' → h.next ≤ h'.next → VR E σ' v v' → HR E C.P C.G W0 σ' h' w' → Q (.panic [{ v := v', recovered := false }]) a w') → o.wpIn (FW rd') 0 C.P a w next Q

theorem nodepth {rd' : Option Nat} (hh : (FW rd').depth.isSome = true) : 1 ≤ 0 := by rw [FW_depth] at hh; cases hh
theorem sem_at {rd' : Option Nat} {ρ : Operand → Value} {o : Oper} (h : ∀ c, o.op ≠ .defer c) : o.semAt (FW rd').round ρ = execOp ρ o := Oper.semAt_eq _ _ _ h

theorem did_post {σ : Emb} {df : List ADef} {h h' : AH} {a : Act} {w : World} {rd' : Option Nat} {o : Oper} {v : Value} (hR0 : HR E C.P C.G W0 σ h w) (hdl : DL E σ df a.defers)
    (hd : ∀ c, o.op ≠ .defer c) (d : OpDid E C.P C.G W0 σ h w (execOp a.eval o) v h') : OpPost E W0 C σ h rd' o a w (.val v df h') := by
  intro next Q hn
  obtain ⟨σ', v', w', hr, hx, hv, hR, hle⟩ := d
  refine ⟨fun f _ => FW_fn _ f, ?_⟩
  rw [sem_at hd]
  have hds := hdl.mono (Ext.le hR0 hx)
  have := hn σ' v' w' a.defers hx hle hv hR hds
  rcases hr with hr | ⟨hr, e⟩
  · rw [hr]; exact this
  · subst e; rw [hr]; exact this

theorem call_post (ok : COK E W0 C) (hrec : ∀ t r, rec_ t = some r → TaskOK E W0 C t r) {σ : Emb} {ev : Operand → Option Value} {df : List ADef} {h : AH} {a : Act} {w : World} {rd' : Option Nat} {o : Oper} {c : Call} {r : OpRes} (hR0 : HR E C.P C.G W0 σ h w) (hdl : DL E σ df a.defers) (hev : ∀ x u, ev x = some u → VR E σ u (a.eval x))
    (ho : o.op = .call c) (e : evCall C rec_ (target C ev c) df h = some r) : OpPost E W0 C σ h rd' o a w r := by
  have hd : ∀ c, o.op ≠ .defer c := fun c' hc => by rw [ho] at hc; cases hc
  have hex : execOp a.eval o = (do let d ← resolve a.eval c o.type; invoke d.target d.args) := by simp only [execOp, ho]
  unfold evCall at e
  split at e
  · cases e
  · rename_i g args ht
    obtain ⟨args', hv, hrun⟩ := target_fn (ty := o.type) ok hev ht
    split at e
    · rename_i st hst
      split at e
      · rename_i v h' hsv
        injection e with e; subst e
        intro next Q hn
        refine ⟨fun f _ => FW_fn _ f, ?_⟩
        rw [sem_at hd, hex, hrun]
        rcases ok.stub g st args h v h' hst hsv σ w args' hR0 hv with ⟨σ', v', w', hr, hx, hle, hvv, hR⟩ | ⟨hr, hc⟩
        · rw [hr]
          exact hn σ' v' w' a.defers hx hle hvv hR (hdl.mono (Ext.le hR0 hx))
        · rw [hr]
          refine ⟨nodepth, FW_calls (hc.mono fun e w' he => ?_)⟩
          obtain ⟨σ', v', rfl, hx, hle, hvv, hR⟩ := he
          exact hn σ' v' w' a.defers hx hle hvv hR (hdl.mono (Ext.le hR0 hx))
      · cases e
    · split at e
      · rename_i v h' hrv
        injection e with e; subst e
        obtain ⟨hb, hc⟩ := hrec _ _ hrv σ w args' hR0 hv
        intro next Q hn
        refine ⟨fun f _ => FW_fn _ f, ?_⟩
        rw [sem_at hd, hex, hrun, run_callFunc ok hb]
        refine ⟨nodepth, FW_calls (hc.mono fun e w' he => ?_)⟩
        obtain ⟨σ', v', rfl, hx, hle, hvv, hR⟩ := he
        exact hn σ' v' w' a.defers hx hle hvv hR (hdl.mono (Ext.le hR0 hx))
      · rename_i v h' hrv
        injection e with e; subst e
        obtain ⟨hb, hc⟩ := hrec _ _ hrv σ w args' hR0 hv
        intro next Q hn
        refine ⟨fun f _ => FW_fn _ f, ?_⟩
        rw [sem_at hd, hex, hrun, run_callFunc ok hb]
        refine ⟨nodepth, FW_calls (hc.mono fun e w' he => ?_)⟩
        obtain ⟨σ', v', rfl, hx, hle, hvv, hR⟩ := he
        exact hn σ' v' w' hx hle hvv hR
      · cases e
  · rename_i l args ht
    obtain ⟨l', args', hl, hv, hrun⟩ := target_yield (ty := o.type) hev ht
    split at e
    · rename_i v h' hrv
      injection e with e; subst e
      obtain ⟨fn, tmps, asg, body, hy, hc⟩ := hrec _ _ hrv σ w l' args' hR0 hl hv
      intro next Q hn
      refine ⟨fun f _ => FW_fn _ f, ?_⟩
      rw [sem_at hd, hex, hrun, hy]
      refine ⟨nodepth, FW_round_in (hc.mono fun e w' he => ?_)⟩
      obtain ⟨σ', v', rfl, hx, hle, hvv, hR⟩ := he
      exact hn σ' v' w' a.defers hx hle hvv hR (hdl.mono (Ext.le hR0 hx))
    · cases e

theorem evOp_sound (ok : COK E W0 C) (hrec : ∀ t r, rec_ t = some r → TaskOK E W0 C t r) {σ : Emb} {ev : Operand → Option Value} {df : List ADef} {h : AH} {a : Act} {w : World} {rd rd' : Option Nat} {o : Oper} {r : OpRes} (hR0 : HR E C.P C.G W0 σ h w) (hdl : DL E σ df a.defers) (hev : ∀ x u, ev x = some u → VR E σ u (a.eval x)) (hrd : RD σ rd rd')
    (e : evOp C rec_ rd o.op ev df h = some r) : OpPost E W0 C σ h rd' o a w r := by
  have dry : ∀ {v : Value}, (∀ c, o.op ≠ .defer c) → adry C.P (ev) o.op = some v → OpPost E W0 C σ h rd' o a w (.val v df h) := by
    intro v hd hv
    obtain ⟨v', h1, h2⟩ := adry_sound (o := o) (ρ := a.eval) hev hv
    exact did_post hR0 hdl hd ⟨σ, v', w, .inl (h2 w), Ext.refl _ _, h1, hR0, Nat.le_refl _⟩
  have slow : evSlow C rec_ rd o.op (ev) df h = some r → OpPost E W0 C σ h rd' o a w r := by
    intro e
    unfold evSlow at e
    split at e
    · rename_i c ho
      split at e
      · split at e
        · rename_i v h' hv
          injection e with e; subst e
          exact did_post hR0 hdl (fun c' hc => by rw [ho] at hc; cases hc) (aop_sound hR0 hev (by rw [ho]; exact hv))
        · cases e
      · exact call_post ok hrec hR0 hdl hev ho e
    · rename_i c ho
      unfold evDefer at e
      split at e
      · cases e
      · cases rd' with
        | some l => exact hrd.elim
        | none =>
          split at e
          · cases e
          · rename_i as has
            have hv := evls_sound hev has
            have eargs : c.args.map a.eval = (c.args.toList.map a.eval).toArray := by apply Array.ext'; simp
            split at e
            · rename_i f hc
              split at e
              · rename_i g first captured hf
                injection e with e; subst e
                have hr := hev f _ hf
                cases hr' : a.eval f <;> rw [hr'] at hr <;> (try (cases hr; done))
                rename_i fn first' captured'
                cases hr with
                | lit q => simp [lit] at q
                | func ha hA hcc hC =>
                  intro next Q hn
                  refine ⟨fun f _ => FW_fn _ f, ?_⟩
                  have hsem : (o.semAt (FW none).round a.eval).run C.P w = .ok (.defer { target := .fn (.func g) captured', args := first' ++ (c.args.toList.map a.eval).toArray }) w := by
                    show (execOp a.eval o).run C.P w = _
                    simp only [execOp, ho, resolve, hc, hr', Deferred.ofValue, Sem.run_bind, Sem.run_pure, Result.andThen_ok, eargs]
                  rw [hsem]
                  refine hn σ undef w ({ target := .fn (.func g) captured', args := first' ++ (c.args.toList.map a.eval).toArray } :: a.defers) (Ext.refl _ _) (Nat.le_refl _) VR.undef hR0 ⟨⟨captured', _, rfl, ?_⟩, hdl⟩
                  have := (VL.of_array ha hA |>.append hv).append (VL.of_array hcc hC)
                  simpa using this
              · cases e
            · cases e
    · rename_i x ho
      split at e
      · rename_i t v hx
        injection e with e; subst e
        intro next Q hn
        refine ⟨fun f _ => FW_fn _ f, ?_⟩
        rw [sem_at (fun c' hc => by rw [ho] at hc; cases hc)]
        have hr := hev x _ hx
        cases hr' : a.eval x <;> rw [hr'] at hr <;> (try (cases hr; done))
        rename_i t' v'
        have hrun : (execOp a.eval o).run C.P w = .halt (.panic (.iface t' v')) w := by
          simp [execOp, ho, hr', Instr.panic]
        rw [hrun]
        exact hn σ _ w (Ext.refl _ _) (Nat.le_refl _) hr hR0
      · cases e
    · rename_i n1 n2 n3
      split at e
      · rename_i v h' hv
        injection e with e; subst e
        exact did_post hR0 hdl (fun c' hc => n2 c' hc) (aop_sound hR0 hev hv)
      · cases e
  unfold evOp at e
  have retv : ∀ {x : Option Value}, retV df h x = some r → ∃ v, x = some v ∧ r = .val v df h := by
    intro x hx
    cases x with
    | none => cases hx
    | some v => injection hx with hx; exact ⟨v, rfl, hx.symm⟩
  have withv : ∀ {x : Option Value} {k : Value → Option OpRes}, withV x k = some r → ∃ v, x = some v ∧ k v = some r := by
    intro x k hx
    cases x with
    | none => cases hx
    | some v => exact ⟨v, rfl, hx⟩
  have notDefer : ∀ op : Op, (∀ c, op ≠ .defer c) → o.op = op → ∀ c, o.op ≠ .defer c := fun op h1 h2 c hc => h1 c (h2 ▸ hc)
  cases ho : o.op <;> rw [ho] at e
  case move x =>
    obtain ⟨v, hv, rfl⟩ := retv e
    exact dry (fun c hc => by rw [ho] at hc; cases hc) (by rw [ho]; exact hv)
  case assign x =>
    obtain ⟨v, hv, rfl⟩ := retv e
    exact dry (fun c hc => by rw [ho] at hc; cases hc) (by rw [ho]; exact hv)
  case load t x =>
    obtain ⟨p, hp, e⟩ := withv e
    obtain ⟨v, hv, rfl⟩ := retv e
    obtain ⟨v', h1, h2⟩ := run_aload hR0 hv (hev x p hp)
    exact did_post hR0 hdl (fun c hc => by rw [ho] at hc; cases hc) ⟨σ, v', w, .inl (by simp [execOp, ho, h2]), Ext.refl _ _, h1, hR0, Nat.le_refl _⟩
  case binOp op t x y yt =>
    obtain ⟨p, hp, e⟩ := withv e
    obtain ⟨q, hq, e⟩ := withv e
    obtain ⟨v, hv, rfl⟩ := retv e
    refine dry (fun c hc => by rw [ho] at hc; cases hc) ?_
    rw [ho]
    simp only [adry, ev2, hp, hq]
    exact fastBin_eq hv
  case fieldAddr t x f =>
    obtain ⟨p, hp, e⟩ := withv e
    obtain ⟨v, hv, rfl⟩ := retv e
    refine dry (fun c hc => by rw [ho] at hc; cases hc) ?_
    rw [ho]
    simp only [adry, ev1, hp]
    exact fastFA_eq hv
  case indexAddr t x i =>
    obtain ⟨p, hp, e⟩ := withv e
    obtain ⟨q, hq, e⟩ := withv e
    obtain ⟨v, hv, rfl⟩ := retv e
    refine dry (fun c hc => by rw [ho] at hc; cases hc) ?_
    rw [ho]
    simp only [adry, ev2, hp, hq]
    exact fastIA_eq hv
  all_goals exact slow (by rw [ho]; exact e)

end
end Go.Ev
