/- Ev: the evaluator is right: answers, deferred calls, functions. -/
import Derived.Test.YtnaodplcionlhaaGreatDoorEvN
namespace Go.Ev
noncomputable section
set_option linter.unusedVariables false
set_option linter.unusedSimpArgs false
variable {E : Nat → Option Value} {W0 : World} {C : Ctx} {rec_ : Task → Option Res}

def resOf (tmps : Array Value) : ResultVar → Sem Value
  | .tmp t => pure (tmps.getD t undef)
  | .cell a t => do loadVar t (← asAddr (tmps.getD a undef))
theorem results_eq (fn : Func) (tmps : Array Value) : results fn tmps = (do let vs ← fn.results.mapM (resOf tmps); pure (if h : vs.size = 1 then vs[0] else .tuple vs)) := by
  unfold results
  congr 1
theorem evResult_sound {σ : Emb} {nt : Nat} {tm : Trie Value} {tmps : Array Value} {h : AH} {w : World} (t : TR E σ nt tm tmps) (hR : HR E C.P C.G W0 σ h w) {r : ResultVar} {v : Value} (e : evResult C.P h tm r = some v) :
    ∃ v', VR E σ v v' ∧ (resOf tmps r).run C.P w = .ok v' w := by
  cases r with
  | tmp i => exact ⟨_, tval_sound t e, rfl⟩
  | cell a ty =>
    simp only [evResult] at e
    split at e
    · cases e
    · rename_i x hx
      have hv := tval_sound t hx
      obtain ⟨v', h1, h2⟩ := run_aload hR e hv
      refine ⟨v', h1, ?_⟩
      simp only [resOf]
      rw [← h2]
      unfold aload at e
      split at e
      · generalize hy : tmps.getD a undef = y at hv
        cases hv with
        | lit q => simp [lit] at q
        | ptr hs => simp only [Instr.loadAt, Instr.sureAddr, asAddr, Sem.run_bind, Sem.run_pure, Result.andThen_ok]
      · cases e
theorem evResults1_sound {σ : Emb} {nt : Nat} {tm : Trie Value} {tmps : Array Value} {h : AH} {w : World} (t : TR E σ nt tm tmps) (hR : HR E C.P C.G W0 σ h w) : ∀ {rs : List ResultVar} {l : List Value}, evResults1 C.P h tm rs = some l →
    ∃ l', VL E σ l l' ∧ (rs.mapM (resOf tmps)).run C.P w = .ok l' w := by
  intro rs
  induction rs with
  | nil => intro l e; simp only [evResults1] at e; injection e with e; subst e; exact ⟨[], VL.nil, by simp⟩
  | cons r rs ih =>
    intro l e
    simp only [evResults1] at e
    split at e
    · cases e
    · rename_i v hv
      split at e
      · cases e
      · rename_i l1 hl
        injection e with e; subst e
        obtain ⟨v', h1, h2⟩ := evResult_sound t hR hv
        obtain ⟨l', h3, h4⟩ := ih hl
        refine ⟨v' :: l', VL.cons h1 h3, ?_⟩
        simp only [List.mapM_cons, Sem.run_bind, h2, Result.andThen_ok, h4, Sem.run_pure]
theorem evResults_sound {σ : Emb} {nt : Nat} {tm : Trie Value} {tmps : Array Value} {h : AH} {w : World} (t : TR E σ nt tm tmps) (hR : HR E C.P C.G W0 σ h w) {fn : Func} {v : Value} (e : evResults C.P fn h tm = some v) :
    ∃ v', VR E σ v v' ∧ (results fn tmps).run C.P w = .ok v' w := by
  unfold evResults at e
  rw [results_eq]
  split at e
  · cases e
  · rename_i x hx
    injection e with e; subst e
    obtain ⟨l', h1, h2⟩ := evResults1_sound t hR hx
    obtain ⟨x', r, rfl, hv, hr⟩ := h1.uncons
    obtain rfl := hr.of_nil
    refine ⟨x', hv, ?_⟩
    simp only [Sem.run_bind, Array.mapM_eq_mapM_toList, Sem.run_map, h2, Result.andThen_ok, Sem.run_pure]
    simp
  · rename_i l hne hx
    injection e with e; subst e
    obtain ⟨l', h1, h2⟩ := evResults1_sound t hR hx
    refine ⟨_, h1.tuple, ?_⟩
    have hs : ¬ (l'.length = 1) := by
      rw [← h1.1]
      intro hh
      obtain ⟨x, hx'⟩ := List.length_eq_one_iff.1 hh
      exact hne x hx'
    simp only [Sem.run_bind, Array.mapM_eq_mapM_toList, Sem.run_map, h2, Result.andThen_ok, Sem.run_pure]
    simp [hs]

/-- a caller's mode, while its deferred calls are made -/
def MR (E : Nat → Option Value) (σ : Emb) : Option (Value × Bool) → FrameMode → Prop
  | none, .returning => True
  | some (v, b), .panicking ch => ∃ v', ch = [{ v := v', recovered := b }] ∧ VR E σ v v'
  | _, _ => False
theorem MR.mono {σ σ' : Emb} (hσ : Le σ σ') {pn : Option (Value × Bool)} {u : FrameMode} (h : MR E σ pn u) : MR E σ' pn u := by
  cases pn with
  | none => cases u <;> exact h
  | some p =>
    obtain ⟨v, b⟩ := p
    cases u with
    | panicking ch => obtain ⟨v', e, hv⟩ := h; exact ⟨v', e, hv.mono hσ⟩
    | run => exact h.elim
    | returning => exact h.elim
theorem MR.settle {σ : Emb} {pn : Option (Value × Bool)} {u : FrameMode} (h : MR E σ pn u) : MR E σ (settleA pn) (settle u) := by
  cases pn with
  | none => cases u <;> first | exact h.elim | trivial
  | some p =>
    obtain ⟨v, b⟩ := p
    cases u with
    | panicking ch =>
      obtain ⟨v', e, hv⟩ := h
      subst e
      cases b with
      | true => trivial
      | false => exact ⟨v', rfl, hv⟩
    | run => exact h.elim
    | returning => exact h.elim
theorem MR.not_run {σ : Emb} {pn : Option (Value × Bool)} {u : FrameMode} (h : MR E σ pn u) : u ≠ .run := by
  intro hu; subst hu; cases pn <;> exact h.elim

theorem startTm_sound {σ : Emb} {args args' : List Value} {tm : Trie Value} (hv : VL E σ args args') (e : startTm args = some tm) (n : Nat) :
    TR E σ (args.length + (n - args.length)) tm (args'.toArray ++ Array.replicate (n - args'.toArray.size) undef) := by
  refine ⟨by simp [hv.1], fun t => ?_⟩
  unfold startTm at e
  rw [Trie.get_puts _ _ _ _ _ e t]
  simp only [Nat.zero_le, Nat.zero_add, true_and, Nat.sub_zero]
  by_cases ht : t < args.length
  · rw [if_pos ht, List.getElem?_eq_getElem ht]
    obtain ⟨v', h1, h2⟩ := hv.get (List.getElem?_eq_getElem ht)
    have ht' : t < args'.length := hv.1 ▸ ht
    have : (args'.toArray ++ Array.replicate (n - args'.toArray.size) undef).getD t undef = v' := by
      have h3 : (args'.toArray ++ Array.replicate (n - args'.toArray.size) undef)[t]? = some v' := by
        rw [Array.getElem?_append_left (by simpa using ht')]; simpa using h1
      simp only [Array.getD_eq_getD_getElem?, h3, Option.getD_some]
    rw [this]; exact h2
  · rw [if_neg ht, Trie.get_nil]
    have ht' : ¬ (t < args'.length) := hv.1 ▸ ht
    have : (args'.toArray ++ Array.replicate (n - args'.toArray.size) undef).getD t undef = undef := by
      by_cases h4 : t < args'.length + (n - args'.length)
      · have h3 : (args'.toArray ++ Array.replicate (n - args'.toArray.size) undef)[t]? = some undef := by
          rw [Array.getElem?_append_right (by simp; omega), Array.getElem?_replicate, if_pos (by simp; omega)]
        simp only [Array.getD_eq_getD_getElem?, h3, Option.getD_some]
      · have h3 : (args'.toArray ++ Array.replicate (n - args'.toArray.size) undef)[t]? = none := by
          rw [Array.getElem?_eq_none]; simp; omega
        simp only [Array.getD_eq_getD_getElem?, h3, Option.getD_none]
    rw [this]; exact VR.undef

theorem isRecover_run {o : Oper} {ρ : Operand → Value} {P : Program} {w : World} (h : isRecover o.op = true) : (execOp ρ o).run P w = .ok .recover w := by
  unfold isRecover at h
  split at h
  · rename_i c ho
    split at h
    · rename_i hc
      simp [execOp, ho, resolve, hc, invoke, builtin]
    · cases h
  · cases h

theorem wpOpsSIn_mono {F : Fence} {n : Nat} {P : Program} {ops : Array Oper} {Q Q' : Exit → Act → List Frame → World → Prop} : ∀ (l : List Nat) {a : Act} {cs : List Frame} {w : World}, wpOpsSIn F n P ops Q l a cs w → (∀ e a cs w, Q e a cs w → Q' e a cs w) → wpOpsSIn F n P ops Q' l a cs w := by
  intro l
  induction l with
  | nil => intro a cs w h hq; exact hq _ _ _ _ h
  | cons i l ih =>
    intro a cs w h hq
    simp only [wpOpsSIn] at h ⊢
    split
    · rename_i ho; rw [ho] at h; exact ih h hq
    · rename_i o ho
      rw [ho] at h
      simp only [] at h
      refine ⟨h.1, ?_⟩
      replace h := h.2
      split
      · rename_i hw
        rw [if_pos hw] at h
        split
        · rename_i w' hr
          rw [hr] at h; simp only [] at h
          split
          · rename_i v cs' hrec; rw [hrec] at h; exact ih h hq
          · rename_i hrec; rw [hrec] at h; exact ih h hq
        · rename_i v w' hr; rw [hr] at h; exact ih h hq
        · rename_i w' hr; rw [hr] at h; exact ih h hq
        · rename_i v w' hr; rw [hr] at h; exact hq _ _ _ _ h
        · rename_i h1 h2 h3 h4
          exfalso
          split at h
          · rename_i w' hr; exact h1 _ hr
          · rename_i v w' hr; exact h2 _ _ hr
          · rename_i w' hr; exact h3 _ hr
          · rename_i v w' hr; exact h4 _ _ hr
          · exact h
      · rename_i hw; rw [if_neg hw] at h; exact ih h hq

theorem evOpsS_sound {nt : Nat} {ops : Array Oper} {c₀ : Frame} {cs : List Frame} : ∀ (l : List Oper) (i : Nat), ops.toList.drop i = l →
    ∀ {σ : Emb} {tm : Trie Value} {h : AH} {pn : Option (Value × Bool)} {u : FrameMode} {a : Act} {w : World} {tm' : Trie Value} {h' : AH} {pn' : Option (Value × Bool)},
    TR E σ nt tm a.tmps → a.defers = [] → HR E C.P C.G W0 σ h w → MR E σ pn u → evOpsS C nt ops l tm h pn = some (tm', h', pn') →
    wpOpsSIn Fence.wide 0 C.P ops (fun e a' cs' w' => e = .normal ∧ ∃ σ' u', cs' = { c₀ with mode := u' } :: cs ∧ MR E σ' pn' u' ∧ Ext h.next σ σ' ∧ h.next ≤ h'.next ∧ TR E σ' nt tm' a'.tmps ∧ a'.defers = [] ∧ HR E C.P C.G W0 σ' h' w')
      (List.range' i l.length) a ({ c₀ with mode := u } :: cs) w := by
  intro l
  induction l with
  | nil =>
    intro i hi σ tm h pn u a w tm' h' pn' ht hd hR hm e
    simp only [evOpsS] at e
    injection e with e; injection e with e1 e2; injection e2 with e2 e3; subst e1 e2 e3
    exact ⟨rfl, σ, u, rfl, hm, Ext.refl _ _, Nat.le_refl _, ht, hd, hR⟩
  | cons o l ih =>
    intro i hi σ tm h pn u a w tm' h' pn' ht hd hR hm e
    have ho : ops[i]? = some o := by
      have : (ops.toList.drop i)[0]? = some o := by rw [hi]; rfl
      simpa using this
    have hl : ops.toList.drop (i + 1) = l := by
      rw [← List.drop_drop, hi]; rfl
    have put_d : ∀ v', (a.put o.dst v').defers = [] := fun v' => by cases h2 : o.dst <;> simpa [Act.put, h2] using hd
    have hev : ∀ x u, evl C.G (tval tm) x = some u → VR E σ u (a.eval x) := fun x u hx => evl_sound hR.glob (fun t v htv => tval_sound ht htv) (fun v => rfl) (fun g => rfl) (fun f => rfl) hx
    simp only [evOpsS] at e
    simp only [List.length_cons, List.range'_succ, wpOpsSIn, ho]
    refine ⟨fun f _ => trivial, ?_⟩
    split at e
    · cases e
    · rename_i hw
      rw [want_sound ht hw]
      split at e
      · cases e
      · rename_i tm1 htp
        simp only [Bool.false_eq_true, if_false]
        exact ih (i + 1) hl (ht.put VR.undef htp) (put_d _) hR hm e
    · rename_i hw
      rw [want_sound ht hw]
      simp only [if_true]
      split at e
      · rename_i hr
        rw [isRecover_run hr]
        simp only []
        split at e
        · rename_i v
          split at e
          · cases e
          · rename_i tm1 htp
            cases u with
            | panicking ch =>
              obtain ⟨v', hc, hv⟩ := hm
              subst hc
              simp only [recoverD]
              exact ih (i + 1) hl (ht.put hv htp) (put_d _) hR (u := .panicking [{ v := v', recovered := true }]) (show MR E σ (some (v, true)) _ from ⟨v', rfl, hv⟩) e
            | run => exact hm.elim
            | returning => exact hm.elim
        · rename_i hnp
          split at e
          · cases e
          · rename_i tm1 htp
            have hrec : recoverD ({ c₀ with mode := u } :: cs) = none := by
              cases pn with
              | none => cases u <;> first | exact hm.elim | rfl
              | some p =>
                obtain ⟨v, b⟩ := p
                cases b with
                | false => exact absurd rfl (hnp v)
                | true =>
                  cases u with
                  | panicking ch => obtain ⟨v', hc, hv⟩ := hm; subst hc; rfl
                  | run => exact hm.elim
                  | returning => exact hm.elim
            rw [hrec]
            exact ih (i + 1) hl (ht.put (.lit rfl) htp) (put_d _) hR hm e
      · split at e
        · cases e
        · rename_i v h1 hop
          split at e
          · cases e
          · rename_i tm1 htp
            obtain ⟨σ', v', w', hr, hx, hv, hR', hle⟩ := aop_sound (o := o) hR hev hop
            have hle' : Le σ σ' := Ext.le hR hx
            have step : wpOpsSIn Fence.wide 0 C.P ops (fun e a' cs' w' => e = .normal ∧ ∃ σ'' u', cs' = { c₀ with mode := u' } :: cs ∧ MR E σ'' pn' u' ∧ Ext h.next σ σ'' ∧ h.next ≤ h'.next ∧ TR E σ'' nt tm' a'.tmps ∧ a'.defers = [] ∧ HR E C.P C.G W0 σ'' h' w')
                (List.range' (i + 1) l.length) (a.put o.dst v') ({ c₀ with mode := u } :: cs) w' := by
              have := ih (i + 1) hl (TR.put (a := a) (ht.mono hle') hv htp) (put_d _) hR' (hm.mono hle') e
              refine wpOpsSIn_mono _ this fun e a' cs' w'' hp => ?_
              obtain ⟨he, σ'', u', h1', h2, h3, h4, h5, h6, h7⟩ := hp
              exact ⟨he, σ'', u', h1', h2, Ext.trans hle hx h3, Nat.le_trans hle h4, h5, h6, h7⟩
            rcases hr with hr | ⟨hr, e2⟩
            · rw [hr]; exact step
            · subst e2; rw [hr]; exact step

end
end Go.Ev
