/- Ev: every operation that makes no call, in one. -/
import Derived.Test.YtnaodplcionlhaaGreatDoorEvH
namespace Go.Ev
noncomputable section
set_option linter.unusedVariables false
set_option linter.unusedSimpArgs false
variable {P : Program} {G : Nat} {W0 : World} {E : Nat → Option Value} {σ : Emb} {h : AH} {w : World}

def with_ (h : AH) (v : Option Value) : Option (Value × AH) :=
  match v with
  | none => none
  | some v => some (v, h)
def skip_ (h : Option AH) : Option (Value × AH) :=
  match h with
  | none => none
  | some h => some (undef, h)
/-- an operation that reads -/
def aread (P : Program) (h : AH) (ev : Operand → Option Value) (op : Op) : Option Value :=
  match op with
  | .load t a => ev1 ev a (aload P h t)
  | .lookup t x k ok => ev2 ev x k fun x k => aLookup P h t x k ok
  | .convert s d x => ev1 ev x (aToString P h s d)
  | _ => none
def azeros (P : Program) (G : Nat) (h : AH) (ev : Operand → Option Value) (op : Op) : Option (Value × AH) :=
  match azero P ev op with
  | none => none
  | some (e, n, k) => match Nat.ble G h.next with
    | false => none
    | true => match h.blks.put D h.next (some (.row ⟨.nil, n, e, true⟩)) with
      | none => none
      | some blks => some (zval h.next k, { blks := blks, next := h.next + 1 })
def ev2' (ev : Operand → Option Value) (x y : Operand) (k : Value → Value → Option (Value × AH)) : Option (Value × AH) :=
  match ev x with
  | none => none
  | some v => match ev y with
    | none => none
    | some u => k v u
def ev1' (ev : Operand → Option Value) (x : Operand) (k : Value → Option (Value × AH)) : Option (Value × AH) :=
  match ev x with
  | none => none
  | some v => k v
theorem ev1'_some {ev : Operand → Option Value} {x : Operand} {k : Value → Option (Value × AH)} {r : Value × AH} (h : ev1' ev x k = some r) : ∃ v, ev x = some v ∧ k v = some r := by
  unfold ev1' at h; split at h
  · cases h
  · exact ⟨_, by assumption, h⟩
theorem ev2'_some {ev : Operand → Option Value} {x y : Operand} {k : Value → Value → Option (Value × AH)} {r : Value × AH} (h : ev2' ev x y k = some r) : ∃ v u, ev x = some v ∧ ev y = some u ∧ k v u = some r := by
  unfold ev2' at h; split at h
  · cases h
  · split at h
    · cases h
    · exact ⟨_, _, by assumption, by assumption, h⟩
/-- an operation that writes -/
def awrite (P : Program) (G : Nat) (h : AH) (ev : Operand → Option Value) (op : Op) : Option (Value × AH) :=
  match op with
  | .alloc _ => azeros P G h ev op
  | .makeSlice _ _ _ => azeros P G h ev op
  | .box e x => ev1' ev x (abox G h e)
  | .buildSlice t n ps => match evparts ev ps.toList with
    | none => none
    | some l => abuildSlice P G h t n l
  | .store t a x => ev2' ev a x fun a x => skip_ (astore P G h t a x)
  | .makeMap t none => aMakeMap G h
  | .mapUpdate t m k x => match ev m with
    | none => none
    | some m => ev2' ev k x fun k x => skip_ (aMapUpdate P G h t m k x)
  | .range t x => ev1' ev x (aRange P G h t)
  | .next it st => ev1' ev it fun x => aNext G h x st
  | .convert s d x => ev1' ev x fun x => match aSameBytes P G h s d x with
    | some r => some r
    | none => aToBytes P G h s d x
  | .call c => match c.callee with
    | .builtin .append => match c.args.toList, c.argTypes.toList with
      | [s, x], [t, tx] => ev2' ev s x (aappend P G h t tx)
      | _, _ => none
    | .builtin .copy => match c.args.toList, c.argTypes.toList with
      | [d, s], t :: _ => ev2' ev d s (acopy P G h t)
      | _, _ => none
    | _ => none
  | _ => none
/-- which operations do not read nor write -/
def isDry : Op → Bool
  | .load .. | .lookup .. | .convert .. | .alloc .. | .makeSlice .. | .box .. | .buildSlice .. | .store .. | .makeMap .. | .mapUpdate .. | .range .. | .next .. => false
  | .call c => match c.callee with
    | .builtin .append | .builtin .copy => false
    | .builtin _ => true
    | _ => false
  | _ => true
def aop (P : Program) (G : Nat) (h : AH) (ev : Operand → Option Value) (op : Op) : Option (Value × AH) :=
  match isDry op with
  | true => with_ h (adry P ev op)
  | false => match op with
    | .load t a => with_ h (ev1 ev a (aload P h t))
    | .lookup t x k ok => with_ h (ev2 ev x k fun x k => aLookup P h t x k ok)
    | .convert s d x => match ev1 ev x (aconv P s d) with
      | some v => some (v, h)
      | none => match ev1 ev x (aToString P h s d) with
        | some v => some (v, h)
        | none => awrite P G h ev (.convert s d x)
    | op => awrite P G h ev op

/-- an operation has been carried out, whatever it answers -/
def OpDid (E : Nat → Option Value) (P : Program) (G : Nat) (W0 : World) (σ : Emb) (h : AH) (w : World) (s : Sem Next) (v : Value) (h' : AH) : Prop :=
  ∃ σ' v' w', (s.run P w = .ok (.value v') w' ∨ (s.run P w = .ok .skip w' ∧ v' = undef)) ∧ Ext h.next σ σ' ∧ VR E σ' v v' ∧ HR E P G W0 σ' h' w' ∧ h.next ≤ h'.next

theorem Did.op {s : Sem Value} {v : Value} {h' : AH} (d : Did E P G W0 σ h w s v h') {t : Sem Next} (e : t = do pure (.value (← s))) : OpDid E P G W0 σ h w t v h' := by
  obtain ⟨σ', v', w', h1, h2, h3, h4, h5⟩ := d
  exact ⟨σ', v', w', .inl (by rw [e]; simp [h1]), h2, h3, h4, h5⟩

theorem aread_sound (hR : HR E P G W0 σ h w) {o : Oper} {ev : Operand → Option Value} {ρ : Operand → Value} {v : Value} (hev : ∀ x u, ev x = some u → VR E σ u (ρ x)) (e : aread P h ev o.op = some v) :
    ∃ v', VR E σ v v' ∧ (execOp ρ o).run P w = .ok (.value v') w := by
  unfold aread at e
  split at e
  · rename_i t a ho
    obtain ⟨x, hx, hk⟩ := ev1_some e
    obtain ⟨v', h1, h2⟩ := run_aload hR hk (hev a x hx)
    exact ⟨v', h1, by simp [execOp, ho, h2]⟩
  · rename_i t x k ok ho
    obtain ⟨a, b, ha, hb, hk⟩ := ev2_some e
    obtain ⟨v', h1, h2⟩ := run_aLookup hR hk (hev x a ha) (hev k b hb)
    exact ⟨v', h1, by simp [execOp, ho, h2]⟩
  · rename_i s d x ho
    obtain ⟨a, ha, hk⟩ := ev1_some e
    obtain ⟨h1, h2⟩ := run_aToString hR hk (hev x a ha)
    exact ⟨v, h1, by simp [execOp, ho, h2]⟩
  · cases e

theorem azeros_sound (hR : HR E P G W0 σ h w) {o : Oper} {ev : Operand → Option Value} {ρ : Operand → Value} {v : Value} {h' : AH} (hev : ∀ x u, ev x = some u → VR E σ u (ρ x)) (e : azeros P G h ev o.op = some (v, h')) :
    OpDid E P G W0 σ h w (execOp ρ o) v h' := by
  unfold azeros at e
  split at e
  · cases e
  · rename_i el n k hz
    split at e
    · cases e
    · rename_i hG
      split at e
      · cases e
      · rename_i blks hb
        injection e with e; injection e with e1 e2; subst e1 e2
        obtain ⟨c, h1, h2⟩ := azero_sound (o := o) hev hz
        have hnew := hR.alloc (k := 0) (h2 _) (ble_true hG) (w' := w.alloc (.cells c el)) rfl
        refine ⟨ext σ h.next w.heap.size 0, _, _, .inl (h1 w), Ext.ext, zval_vr k (ext_self _ _ _ _), ?_, by simp⟩
        show HF E P G W0 _ blks.get (h.next + 1) _
        rw [put_upd hb]; exact hnew

theorem awrite_sound (hR : HR E P G W0 σ h w) {o : Oper} {ev : Operand → Option Value} {ρ : Operand → Value} {v : Value} {h' : AH} (hev : ∀ x u, ev x = some u → VR E σ u (ρ x)) (e : awrite P G h ev o.op = some (v, h')) :
    OpDid E P G W0 σ h w (execOp ρ o) v h' := by
  unfold awrite at e
  split at e
  · exact azeros_sound hR hev e
  · exact azeros_sound hR hev e
  · rename_i t x ho
    obtain ⟨a, ha, hk⟩ := ev1'_some e
    obtain d := run_abox hR hk (hev x a ha)
    exact Did.op d (by simp [execOp, ho])
  · rename_i t n ps ho
    split at e
    · cases e
    · rename_i l hl
      have d : Did E P G W0 σ h w _ v h' := run_abuildSlice hR e (evparts_sound hev hl)
      refine Did.op d ?_
      have e : (ps.map fun (x : Nat × Operand) => match x with | (i, x) => (i, ρ x)) = (ps.toList.map fun (x : Nat × Operand) => match x with | (i, x) => (i, ρ x)).toArray := by apply Array.ext'; simp
      simp only [execOp, ho, e]
  · rename_i t a x ho
    obtain ⟨p, q, hp, hq, hk⟩ := ev2'_some e
    unfold skip_ at hk
    split at hk
    · cases hk
    · rename_i h'' hs
      injection hk with hk; injection hk with e1 e2; subst e1 e2
      obtain ⟨w', h1, h2, h3⟩ := run_astore hR hs (hev a p hp) (hev x q hq)
      exact ⟨σ, undef, w', .inr ⟨by simp [execOp, ho, h1], rfl⟩, Ext.refl _ _, VR.undef, h2, by omega⟩
  · rename_i t ho
    exact Did.op (run_aMakeMap (t := t) hR e) (by simp [execOp, ho])
  · rename_i t m k x ho
    split at e
    · cases e
    · rename_i mv hm
      obtain ⟨p, q, hp, hq, hk⟩ := ev2'_some e
      unfold skip_ at hk
      split at hk
      · cases hk
      · rename_i h'' hs
        injection hk with hk; injection hk with e1 e2; subst e1 e2
        obtain ⟨w', h1, h2, h3⟩ := run_aMapUpdate hR hs (hev m mv hm) (hev k p hp) (hev x q hq)
        exact ⟨σ, undef, w', .inr ⟨by simp [execOp, ho, h1], rfl⟩, Ext.refl _ _, VR.undef, h2, by omega⟩
  · rename_i t x ho
    obtain ⟨a, ha, hk⟩ := ev1'_some e
    exact Did.op (run_aRange hR hk (hev x a ha)) (by simp [execOp, ho])
  · rename_i it st ho
    obtain ⟨a, ha, hk⟩ := ev1'_some e
    exact Did.op (run_aNext (ty := o.type) hR hk (hev it a ha)) (by simp [execOp, ho])
  · rename_i s d x ho
    obtain ⟨a, ha, hk⟩ := ev1'_some e
    split at hk
    · rename_i r hr
      injection hk with hk; subst hk
      exact Did.op (run_aSameBytes hR hr (hev x a ha)) (by simp [execOp, ho])
    · exact Did.op (run_aToBytes hR hk (hev x a ha)) (by simp [execOp, ho])
  · rename_i c ho
    have eargs : c.args.map ρ = (c.args.toList.map ρ).toArray := by apply Array.ext'; simp
    split at e
    · rename_i hc
      split at e
      · rename_i s x t tx ha ht
        obtain ⟨p, q, hp, hq, hk⟩ := ev2'_some e
        have et : c.argTypes = #[t, tx] := by apply Array.ext'; rw [ht]
        refine Did.op (run_aappend (ty := o.type) hR hk (hev s p hp) (hev x q hq)) ?_
        simp [execOp, ho, resolve, hc, invoke, builtin, eargs, ha, et]
      · cases e
    · rename_i hc
      split at e
      · rename_i d s t ts ha ht
        obtain ⟨p, q, hp, hq, hk⟩ := ev2'_some e
        have h0 : c.argTypes[0]? = some t := by rw [← Array.getElem?_toList, ht]; rfl
        refine Did.op (run_acopy (ty := o.type) hR h0 hk (hev d p hp) (hev s q hq)) ?_
        simp [execOp, ho, resolve, hc, invoke, builtin, eargs, ha]
      · cases e
    · cases e
  · cases e

theorem aop_sound (hR : HR E P G W0 σ h w) {o : Oper} {ev : Operand → Option Value} {ρ : Operand → Value} {v : Value} {h' : AH} (hev : ∀ x u, ev x = some u → VR E σ u (ρ x)) (e : aop P G h ev o.op = some (v, h')) :
    OpDid E P G W0 σ h w (execOp ρ o) v h' := by
  have stay : ∀ {v' : Value}, VR E σ v v' → (execOp ρ o).run P w = .ok (.value v') w → OpDid E P G W0 σ h w (execOp ρ o) v h :=
    fun hv hr => ⟨σ, _, w, .inl hr, Ext.refl _ _, hv, hR, Nat.le_refl _⟩
  have rd : ∀ {u : Value}, aread P h ev o.op = some u → u = v → h = h' → OpDid E P G W0 σ h w (execOp ρ o) v h' := by
    intro u hu e1 e2; subst e1 e2
    obtain ⟨v', h1, h2⟩ := aread_sound hR hev hu
    exact stay h1 h2
  unfold aop at e
  split at e
  · unfold with_ at e
    split at e
    · cases e
    · rename_i u hu
      injection e with e; injection e with e1 e2; subst e1 e2
      obtain ⟨v', h1, h2⟩ := adry_sound (o := o) hev hu
      exact stay h1 (h2 w)
  · split at e
    · rename_i t a ho
      unfold with_ at e
      split at e
      · cases e
      · rename_i u hu
        injection e with e; injection e with e1 e2
        exact rd (u := u) (by rw [ho]; exact hu) e1 e2
    · rename_i t x k ok ho
      unfold with_ at e
      split at e
      · cases e
      · rename_i u hu
        injection e with e; injection e with e1 e2
        exact rd (u := u) (by rw [ho]; exact hu) e1 e2
    · rename_i s d x ho
      split at e
      · rename_i u hu
        injection e with e; injection e with e1 e2; subst e1 e2
        obtain ⟨v', h1, h2⟩ := adry_sound (o := o) (P := P) (v := u) hev (by rw [ho]; exact hu)
        exact stay h1 (h2 w)
      · split at e
        · rename_i u hu
          injection e with e; injection e with e1 e2
          exact rd (u := u) (by rw [ho]; exact hu) e1 e2
        · rw [← ho] at e; exact awrite_sound hR hev e
    · exact awrite_sound hR hev e

end
end Go.Ev
