/- Ev: the evaluator is right: ranges over functions; all code; all of it. -/
import Derived.Test.YtnaodplcionlhaaGreatDoorEvP
namespace Go.Ev
noncomputable section
set_option linter.unusedVariables false
set_option linter.unusedSimpArgs false
variable {E : Nat → Option Value} {W0 : World} {C : Ctx} {rec_ : Task → Option Res}

structure LR (E : Nat → Option Value) (σ : Emb) (a : ALoop) (l : Loop) : Prop where
  h1 : l.state = a.state
  h2 : l.pending = a.pending
  h3 : TR E σ a.nt a.tmps l.tmps
  h4 : l.params = a.params
  h5 : l.assign = a.assign
  h6 : l.body = a.body
  h7 : σ a.defers = some l.defers
theorem getLoopA_some {h : AH} {l : Nat} {r : ALoop} (e : getLoopA C h l = some r) : C.G ≤ l ∧ h.blks.get l = some (.loop r) := by
  unfold getLoopA at e
  split at e
  · cases e
  · rename_i hG
    split at e
    · rename_i hb; injection e with e; subst e; exact ⟨ble_true hG, hb⟩
    · cases e
theorem loop_real {σ : Emb} {h : AH} {w : World} (hR : HR E C.P C.G W0 σ h w) {l l' : Nat} {r : ALoop} (e : getLoopA C h l = some r) (hs : σ l = some l') : ∃ R, w.heap[l']? = some (.loop R) ∧ LR E σ r R := by
  obtain ⟨hG, hb⟩ := getLoopA_some e
  obtain ⟨ob, h1, h2⟩ := hR.blk l _ l' hb hs
  cases h2 with
  | loop q1 q2 q3 q4 q5 q6 q7 => exact ⟨_, h1, q1, q2, q3, q4, q5, q6, q7⟩
theorem loop_put {σ : Emb} {h h2 : AH} {w : World} (hR : HR E C.P C.G W0 σ h w) {l l' : Nat} {r r2 : ALoop} {R2 : Loop} (e : getLoopA C h l = some r) (hs : σ l = some l') (hp : putLoop C h l r2 = some h2) (k : LR E σ r2 R2) :
    HR E C.P C.G W0 σ h2 (w.putObj l' (.loop R2)) ∧ h2.next = h.next := by
  obtain ⟨hG, hb⟩ := getLoopA_some e
  have hlt := (hR.dom l l' hs).2
  unfold putLoop at hp
  split at hp
  · rename_i blks hbl
    injection hp with hp; subst hp
    refine ⟨?_, rfl⟩
    show HF E C.P C.G W0 σ blks.get h.next _
    rw [put_upd hbl]
    refine HF.turn hR hG hb hs (o' := .loop r2) (ob' := .loop R2) (.loop k.h1 k.h2 k.h3 k.h4 k.h5 k.h6 k.h7) (fun j => ?_) (by simp)
    by_cases hj : j = l'
    · subst hj; rw [if_pos rfl]; exact World.putObj_heap_same hlt
    · rw [if_neg hj]; exact World.putObj_heap_other hj
  · cases hp

theorem putParams_sound {σ : Emb} {nt : Nat} : ∀ {ps : List Tmp} {args args' : List Value} {tm tm' : Trie Value} {tmps : Array Value}, putParams nt tm ps args = some tm' → TR E σ nt tm tmps → VL E σ args args' →
    ps.length = args'.length ∧ TR E σ nt tm' ((ps.zip args').foldl (fun tmps (t, a) => tmps.setIfInBounds t a) tmps) := by
  intro ps
  induction ps with
  | nil =>
    intro args args' tm tm' tmps e ht hv
    cases args with
    | nil => simp only [putParams] at e; injection e with e; subst e; obtain rfl := hv.of_nil; exact ⟨rfl, ht⟩
    | cons _ _ => simp only [putParams] at e; cases e
  | cons p ps ih =>
    intro args args' tm tm' tmps e ht hv
    cases args with
    | nil => simp only [putParams] at e; cases e
    | cons v vs =>
      obtain ⟨v', r', rfl, hv1, hv2⟩ := hv.uncons
      simp only [putParams] at e
      split at e
      · cases e
      · rename_i tm1 h1
        have ht1 := TR.put (a := { tmps := tmps, defers := [] }) ht hv1 h1
        obtain ⟨q1, q2⟩ := ih e ht1 hv2
        exact ⟨by simp [q1], q2⟩

theorem evRoundEnd_sound {σ : Emb} {h h' : AH} {w : World} {l l' : Nat} {ex : Ex} {v : Value} (hR : HR E C.P C.G W0 σ h w) (hs : σ l = some l') (e : evRoundEnd C l ex h = some (.ret v h')) {ee : Exit} (hex : ExR E σ ex ee) {a : Act} :
    roundPost C.P l' (fun e w' => ∃ v', e = .returned v' ∧ VR E σ v v' ∧ HR E C.P C.G W0 σ h' w' ∧ h'.next = h.next) ee a w := by
  unfold evRoundEnd at e
  split at e
  · cases e
  · rename_i r hr
    obtain ⟨R, hh, k⟩ := loop_real hR hr hs
    split at e
    · split at e
      · cases e
      · rename_i h2 hp
        injection e with e; injection e with e1 e2; subst e1 e2
        obtain rfl := hex.normal
        obtain ⟨q1, q2⟩ := loop_put hR hr hs hp (R2 := { R with state := .ready, pending := none }) ⟨rfl, rfl, k.h3, k.h4, k.h5, k.h6, k.h7⟩
        exact ⟨_, _, run_endRound none hh, _, rfl, .bool true, q1, q2⟩
    · split at e
      · cases e
      · rename_i h2 hp
        injection e with e; injection e with e1 e2; subst e1 e2
        cases ee <;> first | exact hex.elim | skip
        obtain ⟨q1, q2⟩ := loop_put hR hr hs hp (R2 := { R with state := .done, pending := some .ret }) ⟨rfl, rfl, k.h3, k.h4, k.h5, k.h6, k.h7⟩
        exact ⟨_, _, run_endRound (some .ret) hh, _, rfl, .bool false, q1, q2⟩
    · rename_i id
      split at e
      · cases e
      · rename_i h2 hp
        injection e with e; injection e with e1 e2; subst e1 e2
        cases ee <;> first | exact hex.elim | skip
        rename_i id'
        have : id = id' := hex
        subst this
        obtain ⟨q1, q2⟩ := loop_put hR hr hs hp (R2 := { R with state := .done, pending := some (.exit id) }) ⟨rfl, rfl, k.h3, k.h4, k.h5, k.h6, k.h7⟩
        exact ⟨_, _, run_endRound (some (.exit id)) hh, _, rfl, .bool false, q1, q2⟩
    · rename_i t
      split at e
      · cases e
      · rename_i h2 hp
        injection e with e; injection e with e1 e2; subst e1 e2
        cases ee <;> first | exact hex.elim | skip
        rename_i t'
        have : t = t' := hex
        subst this
        obtain ⟨q1, q2⟩ := loop_put hR hr hs hp (R2 := { R with state := .done, pending := some (.goto t) }) ⟨rfl, rfl, k.h3, k.h4, k.h5, k.h6, k.h7⟩
        exact ⟨_, _, run_endRound (some (.goto t)) hh, _, rfl, .bool false, q1, q2⟩
    · cases e

theorem evRound_sound (hrec : ∀ t r, rec_ t = some r → TaskOK E W0 C t r) {l : Nat} {args : List Value} {h : AH} {r : Res} (e : evRound C rec_ l args h = some r) : TaskOK E W0 C (.round l args h) r := by
  unfold evRound at e
  split at e
  · cases e
  · rename_i r0 hr0
    split at e
    · cases e
    · rename_i tm htm
      split at e
      · rename_i tm1 df1 h1 h0
        split at e
        · cases e
        · rename_i r1 hr1
          split at e
          · rename_i hst
            split at e
            · cases e
            · rename_i h2 hp2
              split at e
              · rename_i ex tm3 df3 h3 hb3
                have hret : ∃ v h4, r = .ret v h4 := by
                  unfold evRoundEnd at e
                  (repeat' split at e) <;> first | (cases e; done) | (injection e with e; exact ⟨_, _, e.symm⟩)
                obtain ⟨v, h4, rfl⟩ := hret
                intro σ w l' args' hR hs hv
                obtain ⟨R, hh, k⟩ := loop_real hR hr0 hs
                obtain ⟨q1, q2⟩ := putParams_sound htm k.h3 hv
                have hsz : args'.toArray.size = R.params.size := by rw [k.h4]; simp [← q1]
                refine ⟨_, _, _, _, run_yield hh hsz, ?_⟩
                have htm' : (R.params.zip args'.toArray).foldl (fun tmps (x : Tmp × Value) => match x with | (t, a) => tmps.setIfInBounds t a) R.tmps = (r0.params.toList.zip args').foldl (fun tmps (x : Tmp × Value) => match x with | (t, a) => tmps.setIfInBounds t a) R.tmps := by
                  rw [k.h4, ← Array.foldl_toList]; simp
                rw [htm', k.h5, k.h6]
                refine roundIn_of_wpIn (F := Fence.wide) trivial ?_
                have s0 : SR E W0 C σ r0.nt tm [] h { tmps := (r0.params.toList.zip args').foldl (fun tmps (x : Tmp × Value) => match x with | (t, a) => tmps.setIfInBounds t a) R.tmps, defers := [] } w := ⟨q2, trivial, hR⟩
                have k0 := hrec _ _ h0 σ w _ (some l') s0 hs
                refine wpIn_mono k0 fun e' a1 w1 p => ?_
                obtain ⟨σ1, hx1, hle1, hex1, s1⟩ := p
                obtain rfl := hex1.normal
                have hs1 : σ1 l = some l' := ((Ext.le hR hx1) _ _ hs).1
                obtain ⟨R1, hh1, k1⟩ := loop_real s1.hr hr1 hs1
                obtain ⟨hR2, hn2⟩ := loop_put s1.hr hr1 hs1 hp2 (R2 := { R1 with state := .busy }) ⟨rfl, k1.h2, k1.h3, k1.h4, k1.h5, k1.h6, k1.h7⟩
                refine ⟨_, run_beginRound hh1 (by rw [k1.h1]; exact hst), ?_⟩
                have s2 : SR E W0 C σ1 r0.nt tm1 df1 h2 a1 (w1.putObj l' (.loop { R1 with state := .busy })) := ⟨s1.tr, s1.dl, hR2⟩
                refine wpIn_mono (hrec _ _ hb3 σ1 _ a1 (some l') s2 hs1) fun e3 a3 w3 p3 => ?_
                obtain ⟨σ3, hx3, hle3, hex3, s3⟩ := p3
                have hs3 : σ3 l = some l' := ((Ext.le hR2 hx3) _ _ hs1).1
                have hend := evRoundEnd_sound (a := a3) s3.hr hs3 e hex3
                have fin : ∀ (e : Ending) (w' : World), (∃ v', e = .returned v' ∧ VR E σ3 v v' ∧ HR E C.P C.G W0 σ3 h4 w' ∧ h4.next = h3.next) → PostRet E W0 C σ h v h4 e w' := by
                  intro e w' hq
                  obtain ⟨v', rfl, hvv, hRR, hnn⟩ := hq
                  refine ⟨σ3, v', rfl, Ext.trans hle1 hx1 (fun b hb => hx3 b (by omega)), by omega, hvv, hRR⟩
                cases e3 with
                | normal => obtain ⟨v', w', hrun, hq⟩ := hend; exact ⟨v', w', hrun, fin _ _ hq⟩
                | ret => obtain ⟨v', w', hrun, hq⟩ := hend; exact ⟨v', w', hrun, fin _ _ hq⟩
                | exit id => obtain ⟨v', w', hrun, hq⟩ := hend; exact ⟨v', w', hrun, fin _ _ hq⟩
                | goto t => obtain ⟨v', w', hrun, hq⟩ := hend; exact ⟨v', w', hrun, fin _ _ hq⟩
                | panic ch => exact hend.elim
                | outgrown => exact hend.elim
              · cases e
          · cases e
      · cases e

end
end Go.Ev
