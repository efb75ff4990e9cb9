/- Ev: the evaluator is right: code, scopes, calls. -/
import Derived.Test.YtnaodplcionlhaaGreatDoorEvL
namespace Go.Ev
noncomputable section
set_option linter.unusedVariables false
set_option linter.unusedSimpArgs false
variable {E : Nat → Option Value} {W0 : World} {C : Ctx} {rec_ : Task → Option Res}

theorem tval_sound {σ : Emb} {nt : Nat} {tm : Trie Value} {tmps : Array Value} (s : TR E σ nt tm tmps) {t : Nat} {v : Value} (e : tval tm t = some v) : VR E σ v (tmps.getD t undef) := by
  have := s.2 t
  unfold tval at e
  cases hg : tm.get t with
  | none => rw [hg] at e this; simp only [] at e; injection e with e; subst e; exact this
  | some v' => rw [hg] at e this; simp only [] at e; injection e with e; subst e; exact this

theorem want_sound {σ : Emb} {nt : Nat} {tm : Trie Value} {tmps : Array Value} (s : TR E σ nt tm tmps) {ops : Array Oper} {o : Oper} {b : Bool} (e : want ops (tval tm) o = some b) : Region.wanted o (yielded ops tmps) = b := by
  unfold want at e
  unfold Region.wanted
  split at e
  · rename_i hg; injection e with e; subst e; rw [hg]
  · rename_i j bw hg
    rw [hg]
    simp only []
    split at e
    · rename_i hd
      injection e with e; subst e
      simp [yielded, hd]
    · rename_i t hd
      split at e
      · rename_i b' ht
        have hv := (tval_sound s ht).bool_inv
        have hy : yielded ops tmps j = some b' := by
          simp only [yielded, hd, Option.bind_some]
          have : tmps[t]? = some (.bool b') := by
            cases hx : tmps[t]? with
            | none => simp [hx, undef] at hv
            | some u => simp [hx] at hv; rw [hv]
          rw [this]
        rw [hy]
        cases b' <;> cases bw <;> simp at e <;> subst e <;> rfl
      · rename_i vs ht
        injection e with e; subst e
        have hv := tval_sound s ht
        have hy : yielded ops tmps j = none := by
          simp only [yielded, hd, Option.bind_some]
          cases hx : tmps[t]? with
          | none => rfl
          | some u =>
            have : tmps.getD t undef = u := by simp [hx]
            rw [this] at hv
            cases hv with
            | lit q => simp [lit] at q
            | tuple _ _ => rfl
        rw [hy]; cases bw <;> rfl
      · cases e

theorem Post.trans {σ σ1 : Emb} {nt : Nat} {h h1 h' : AH} {ex : Ex} {tm' : Trie Value} {df' : List ADef} (hx : Ext h.next σ σ1) (hle : h.next ≤ h1.next) {e : Exit} {a : Act} {w : World}
    (p : Post E W0 C σ1 nt h1 ex tm' df' h' e a w) : Post E W0 C σ nt h ex tm' df' h' e a w := by
  obtain ⟨σ', h1', h2, h3, h4⟩ := p
  exact ⟨σ', Ext.trans hle hx h1', Nat.le_trans hle h2, h3, h4⟩

theorem RD.mono {σ σ' : Emb} {rd rd' : Option Nat} (h : Le σ σ') (k : RD σ rd rd') : RD σ' rd rd' := by
  cases rd <;> cases rd' <;> first | exact k | exact (h _ _ k).1

theorem wpOpIn_weaken {F : Fence} {n : Nat} {P : Program} {o : Oper} {a : Act} {w : World} {K K' : Act → World → Prop} {Q Q' : Exit → Act → World → Prop} (h : ∀ a w, K a w → K' a w) (hq : ∀ e a w, Q e a w → Q' e a w)
    (hh : o.wpIn F n P a w K Q) : o.wpIn F n P a w K' Q' := by
  unfold Oper.wpIn at *
  refine ⟨hh.1, ?_⟩
  replace hh := hh.2
  generalize (o.semAt F.round a.eval).run P w = r at *
  cases r with
  | ok n w' =>
    cases n <;> simp only [Oper.uponIn] at hh ⊢ <;>
      first
        | exact h _ _ hh
        | exact ⟨hh.1, hh.2.mono (fun e w'' he => by cases e <;> first | exact h _ _ he | exact hq _ _ _ he | (obtain ⟨a0, w0, q⟩ := he; exact ⟨a0, w0, hq _ _ _ q⟩))⟩
        | exact ⟨hh.1, hh.2.mono (fun _ _ he => h _ _ he)⟩
  | halt x w' => cases x <;> simp only [Oper.uponIn] at hh ⊢ <;> exact hq _ _ _ hh
theorem wpOpsIn_mono {F : Fence} {n : Nat} {P : Program} {ops : Array Oper} {Q Q' : Exit → Act → World → Prop} : ∀ (l : List Nat) {a : Act} {w : World}, wpOpsIn F n P ops Q l a w → (∀ e a w, Q e a w → Q' e a w) → wpOpsIn F n P ops Q' l a w := by
  intro l
  induction l with
  | nil => intro a w h hq; exact hq _ _ _ h
  | cons i l ih =>
    intro a w h hq
    simp only [wpOpsIn] at h ⊢
    split
    · rename_i ho; rw [ho] at h; exact ih h hq
    · rename_i o ho
      rw [ho] at h
      simp only [] at h
      split
      · rename_i hw; rw [if_pos hw] at h; exact wpOpIn_weaken (fun a w k => ih k hq) hq h
      · rename_i hw; rw [if_neg hw] at h; exact ⟨h.1, ih h.2 hq⟩
theorem evOps_code {rd : Option Nat} {nt : Nat} {ops : Array Oper} : ∀ {l : List Oper} {tm : Trie Value} {df : List ADef} {h : AH} {r : Res}, evOps C rec_ rd nt ops l tm df h = some r → match r with | .code .. => True | _ => False := by
  intro l
  induction l with
  | nil => intro tm df h r e; rw [evOps_nil] at e; injection e with e; subst e; trivial
  | cons o l ih =>
    intro tm df h r e
    rw [evOps_cons] at e
    split at e
    · cases e
    · split at e
      · cases e
      · exact ih e
    · split at e
      · cases e
      · injection e with e; subst e; trivial
      · split at e
        · cases e
        · exact ih e

theorem evOps_sound (ok : COK E W0 C) (hrec : ∀ t r, rec_ t = some r → TaskOK E W0 C t r) {nt : Nat} {rd rd' : Option Nat} {ops : Array Oper} : ∀ (l : List Oper) (i : Nat), ops.toList.drop i = l →
    ∀ {σ : Emb} {tm : Trie Value} {df : List ADef} {h : AH} {a : Act} {w : World} {r : Res}, SR E W0 C σ nt tm df h a w → RD σ rd rd' → evOps C rec_ rd nt ops l tm df h = some r →
    ∃ ex tm' df' h', r = .code ex tm' df' h' ∧ wpOpsIn (FW rd') 0 C.P ops (Post E W0 C σ nt h ex tm' df' h') (List.range' i l.length) a w := by
  intro l
  induction l with
  | nil =>
    intro i hi σ tm df h a w r s hrd e
    rw [evOps_nil] at e
    injection e with e; subst e
    exact ⟨.normal, tm, df, h, rfl, σ, Ext.refl _ _, Nat.le_refl _, trivial, s⟩
  | cons o l ih =>
    intro i hi σ tm df h a w r s hrd e
    have ho : ops[i]? = some o := by
      have : (ops.toList.drop i)[0]? = some o := by rw [hi]; rfl
      simpa using this
    have hl : ops.toList.drop (i + 1) = l := by
      rw [← List.drop_drop, hi]; rfl
    rw [evOps_cons] at e
    simp only [List.length_cons, List.range'_succ, wpOpsIn, ho]
    split at e
    · cases e
    · rename_i hw
      have hw := want_sound s.tr hw
      split at e
      · cases e
      · rename_i tm' ht
        have s' : SR E W0 C σ nt tm' df h (a.put o.dst undef) w := ⟨s.tr.put VR.undef ht, by cases ho2 : o.dst <;> simpa [Act.put, ho2] using s.dl, s.hr⟩
        obtain ⟨ex, tm2, df2, h2, rfl, hwp⟩ := ih (i + 1) hl s' hrd e
        refine ⟨ex, tm2, df2, h2, rfl, ?_⟩
        rw [hw]
        exact ⟨fun f _ => FW_fn _ f, hwp⟩
    · rename_i hw
      have hw := want_sound s.tr hw
      split at e
      · cases e
      · rename_i v h1 hop
        injection e with e; subst e
        refine ⟨.panic v, tm, df, h1, rfl, ?_⟩
        rw [hw]
        refine evOp_sound ok hrec s.hr s.dl s.ev hrd hop _ _ fun σ' v' w' hx hle hv hR => ?_
        exact ⟨σ', hx, hle, ⟨v', rfl, hv⟩, s.tr.mono (Ext.le s.hr hx), s.dl.mono (Ext.le s.hr hx), hR⟩
      · rename_i v df1 h1 hop
        split at e
        · cases e
        · rename_i tm' ht
          -- what comes is known before the operation's own names are
          have key : ∀ σ' v' w' ds, Ext h.next σ σ' → h.next ≤ h1.next → VR E σ' v v' → HR E C.P C.G W0 σ' h1 w' → DL E σ' df1 ds →
              ∃ ex tm2 df2 h2, r = .code ex tm2 df2 h2 ∧ wpOpsIn (FW rd') 0 C.P ops (Post E W0 C σ nt h ex tm2 df2 h2) (List.range' (i + 1) l.length) ({ a with defers := ds }.put o.dst v') w' := by
            intro σ' v' w' ds hx hle hv hR hds
            have s' : SR E W0 C σ' nt tm' df1 h1 ({ a with defers := ds }.put o.dst v') w' :=
              ⟨TR.put (a := { a with defers := ds }) (s.tr.mono (Ext.le s.hr hx)) hv ht, by cases ho2 : o.dst <;> simpa [Act.put, ho2] using hds, hR⟩
            obtain ⟨ex, tm2, df2, h2, hr, hwp⟩ := ih (i + 1) hl s' (hrd.mono (Ext.le s.hr hx)) e
            exact ⟨ex, tm2, df2, h2, hr, wpOpsIn_mono _ hwp fun e a w p => p.trans hx hle⟩
          cases r with
          | code ex tm2 df2 h2 =>
            refine ⟨ex, tm2, df2, h2, rfl, ?_⟩
            rw [hw]
            refine evOp_sound ok hrec s.hr s.dl s.ev hrd hop _ _ fun σ' v' w' ds hx hle hv hR hds => ?_
            obtain ⟨ex', tm3, df3, h3, hr, hwp⟩ := key σ' v' w' ds hx hle hv hR hds
            injection hr with e1 e2 e3 e4; subst e1 e2 e3 e4
            exact hwp
          | ret v2 h2 => exact (evOps_code e).elim
          | pan v2 h2 => exact (evOps_code e).elim

end
end Go.Ev
