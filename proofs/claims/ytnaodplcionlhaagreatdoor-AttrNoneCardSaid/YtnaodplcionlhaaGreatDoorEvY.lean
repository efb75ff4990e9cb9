/- Ev: what stands for the library's IndexByte and strings.Join. -/
import Derived.Test.YtnaodplcionlhaaGreatDoorEvX
import Derived.Lib.BytesEntry
import Derived.Lib.Bytealg
import Derived.Lib.Join
import Derived.Laws.StandIn
import Derived.Below
namespace Go.Ev
noncomputable section
set_option linter.unusedVariables false
set_option linter.unusedSimpArgs false
variable {E : Nat → Option Value} {W0 : World} {C : Ctx}

/-- the memory may grow -/
theorem HF.grow {P : Program} {G : Nat} {σ : Emb} {bg : Nat → Option AObj} {nx : Nat} {w w' : World} (hR : HF E P G W0 σ bg nx w) (hs : w.heap.size ≤ w'.heap.size) (hb : ∀ k, k < w.heap.size → w'.heap[k]? = w.heap[k]?) (q : Quiet w w') : HF E P G W0 σ bg nx w' :=
  ⟨fun b c e => ⟨(hR.dom b c e).1, Nat.lt_of_lt_of_le (hR.dom b c e).2 hs⟩, hR.inj, fun b o c g e => by rw [hb c (hR.dom b c e).2]; exact hR.blk b o c g e, hR.glob, hR.new,
    ⟨Nat.le_trans hR.old.1 hs, fun c hc => by rw [hb c (Nat.lt_of_lt_of_le hc hR.old.1)]; exact hR.old.2 c hc⟩, q.1.trans hR.still.1, q.2.trans hR.still.2⟩

/-! ### IndexByte -/
def idxGo (c : UInt8) : List UInt8 → Nat → Int
  | [], _ => -1
  | b :: l, i => match Nat.beq b.toNat c.toNat with
    | true => Int.ofNat i
    | false => idxGo c l (i + 1)
theorem idxGo_eq (c : UInt8) : ∀ (l : List UInt8) (i : Nat), (Lib.indexByte l c = -1 ∧ idxGo c l i = -1) ∨ (0 ≤ Lib.indexByte l c ∧ idxGo c l i = Lib.indexByte l c + i) := by
  intro l
  induction l with
  | nil => intro i; exact .inl ⟨rfl, rfl⟩
  | cons b l ih =>
    intro i
    cases hb : Nat.beq b.toNat c.toNat with
    | true =>
      have : b = c := UInt8.toNat_inj.1 (Trie.beq_true hb)
      subst this
      refine .inr ⟨by simp [Lib.indexByte], ?_⟩
      simp [Lib.indexByte, idxGo]
    | false =>
      have hne : (b == c) = false := by
        cases h : b == c with
        | false => rfl
        | true => rw [beq_iff_eq] at h; subst h; exact absurd rfl (Trie.beq_false hb)
      have e1 : Lib.indexByte (b :: l) c = if Lib.indexByte l c == -1 then -1 else Lib.indexByte l c + 1 := by
        simp only [Lib.indexByte, hne, Bool.false_eq_true, if_false]
      have e2 : idxGo c (b :: l) i = idxGo c l (i + 1) := by simp only [idxGo, hb]
      rw [e1, e2]
      rcases ih (i + 1) with ⟨h1, h2⟩ | ⟨h1, h2⟩
      · exact .inl ⟨by simp [h1], h2⟩
      · have h3 : (Lib.indexByte l c == -1) = false := by simp; omega
        refine .inr ⟨by simp only [h3, Bool.false_eq_true, if_false]; omega, ?_⟩
        simp only [h3, Bool.false_eq_true, if_false]
        rw [h2]; push_cast; omega
theorem idxGo_zero (c : UInt8) (l : List UInt8) : idxGo c l 0 = Lib.indexByte l c := by
  rcases idxGo_eq c l 0 with ⟨h1, h2⟩ | ⟨h1, h2⟩
  · rw [h1, h2]
  · rw [h2]; simp
def idxStub (P : Program) (args : List Value) (h : AH) : Option (Value × AH) :=
  match args with
  | [.string s, .int .u8 c] => some (.int .i64 (idxGo (UInt8.ofNat c.toNat) s.data.toList 0), h)
  | [.slice (some ⟨b, o, none⟩) n _, .int .u8 c] => match getRow h b with
    | none => none
    | some r => match reads P r o n with
      | none => none
      | some l => match bytesOf l with
        | none => none
        | some bs => some (.int .i64 (idxGo (UInt8.ofNat c.toNat) bs 0), h)
  | _ => none
def IsIdx (P : Program) (g : FuncId) : Prop := ∃ fn, P.funcs[g]? = some fn ∧ (fn.name == "runtime.NumGoroutine") = false ∧ fn.body.isNone = true ∧ Extern.findNext fn = none ∧ Extern.find fn = some Extern.BytealgIndexByte.indexByte
theorem idx_did {g : FuncId} (hg : IsIdx C.P g) {args : List Value} {h h' : AH} {v : Value} (e : idxStub C.P args h = some (v, h')) {σ : Emb} {w : World} {args' : List Value} (hR : HR E C.P C.G W0 σ h w) (hv : VL E σ args args') : CallDid E W0 C σ h w g args' v h' := by
  obtain ⟨fn, h1, h2, h3, h4, h5⟩ := hg
  have hrun := fun a w => run_callFunc_indexByte h1 h2 h3 h4 h5 a w
  unfold idxStub at e
  split at e
  · rename_i s c
    injection e with e; injection e with e1 e2; subst e1 e2
    obtain ⟨v0, r0, rfl, hv0, hv⟩ := hv.uncons
    obtain ⟨v1, r1, rfl, hv1, hv⟩ := hv.uncons
    obtain rfl := hv.of_nil
    obtain rfl := hv0.string_inv
    obtain rfl := hv1.int_inv
    refine .inl ⟨σ, _, w, ?_, Ext.refl _ _, Nat.le_refl _, VR.int _ _, hR⟩
    rw [hrun]
    show ((Extern.BytealgIndexByte.indexByte #[.string s, .int .u8 c]).run C.P w).andThen _ = _
    rw [Lib.run_indexByteString]
    simp only [Result.andThen_ok, idxGo_zero]
    try rfl
  · rename_i b o n cp c
    split at e
    · cases e
    · rename_i r hr
      split at e
      · cases e
      · rename_i l hl
        split at e
        · cases e
        · rename_i bs hbs
          injection e with e; injection e with e1 e2; subst e1 e2
          obtain ⟨v0, r0, rfl, hv0, hv⟩ := hv.uncons
          obtain ⟨v1, r1, rfl, hv1, hv⟩ := hv.uncons
          obtain rfl := hv.of_nil
          obtain rfl := hv1.int_inv
          cases hv0 with
          | lit q => simp [lit] at q
          | slice hs hc =>
            rename_i b' c'
            obtain ⟨l', hl1, hl2⟩ := reads_sound hR hr hs hl
            obtain ⟨ns, rfl, rfl⟩ := bytesOf_sound hbs hl1
            have hlen : ns.length = n := by
              have h1 := hl1.1
              rw [reads_length hl] at h1
              simpa using h1.symm
            refine .inl ⟨σ, _, w, ?_, Ext.refl _ _, Nat.le_refl _, VR.int _ _, hR⟩
            rw [hrun]
            show ((Extern.BytealgIndexByte.indexByte #[.slice (some ⟨b', o, none⟩) n c', .int .u8 c]).run C.P w).andThen _ = _
            rw [Lib.run_indexByteSlice w b' o n c' ns hlen (fun i hi => by
              have hi' : i < ns.length := by omega
              rw [hl2 i (.int .u8 ns[i]) (by simp [hi']), List.getD_eq_getElem?_getD, List.getElem?_eq_getElem hi']
              rfl) c]
            simp only [Result.andThen_ok, idxGo_zero]
            try rfl
  · cases e

/-! ### strings.Join -/
def joinBytes (sep : List UInt8) : List Value → Option (List UInt8)
  | [] => some []
  | [.string s] => some s.data.toList
  | .string s :: r => match joinBytes sep r with
    | none => none
    | some l => some (s.data.toList ++ (sep ++ l))
  | _ => none
theorem joinBytes_spec {σ : Emb} {sep : List UInt8} : ∀ {l l' : List Value} {bs : List UInt8}, joinBytes sep l = some bs → VL E σ l l' → ∃ xs : List ByteArray, l' = xs.map Value.string ∧ bs = Lib.join (xs.map (·.data.toList)) sep := by
  intro l
  induction l with
  | nil => intro l' bs e hv; simp only [joinBytes] at e; injection e with e; subst e; obtain rfl := hv.of_nil; exact ⟨[], rfl, rfl⟩
  | cons v l ih =>
    intro l' bs e hv
    obtain ⟨v0, r0, rfl, hv0, hvr⟩ := hv.uncons
    clear hv
    cases v with
    | string s =>
      obtain rfl := hv0.string_inv
      cases l with
      | nil =>
        simp only [joinBytes] at e
        injection e with e; subst e
        obtain rfl := hvr.of_nil
        exact ⟨[s], rfl, (Lib.join_one _ _).symm⟩
      | cons y l =>
        rw [joinBytes] at e
        · split at e
          · cases e
          · rename_i bs' hb
            injection e with e; subst e
            obtain ⟨xs, rfl, rfl⟩ := ih hb hvr
            refine ⟨s :: xs, rfl, ?_⟩
            cases xs with
            | nil => have := hvr.1; simp at this
            | cons x xs =>
              simp only [List.map_cons]
              rw [Lib.join_cons, Lib.join_cons]
              simp [Lib.joinTail]
        · intro h; cases h
    | _ => simp [joinBytes] at e
def joinStub (P : Program) (args : List Value) (h : AH) : Option (Value × AH) :=
  match args with
  | [.slice (some ⟨b, o, none⟩) n cp, .string sep] => match Nat.ble n cp with
    | false => none
    | true => match Nat.ble n zmax with
      | false => none
      | true => match getRow h b with
        | none => none
        | some r => match reads P r o n with
          | none => none
          | some l => match joinBytes sep.data.toList l with
            | none => none
            | some bs => match Nat.ble bs.length zmax with
              | false => none
              | true => some (.string ⟨bs.toArray⟩, h)
  | _ => none
def IsJoin (P : Program) (g : FuncId) : Prop := (∃ fn, P.funcs[g]? = some fn ∧ (fn.name == "runtime.NumGoroutine") = false ∧ fn.body.isSome = true) ∧
  ∀ (bk o c : Nat) (xs : List ByteArray) (sep : ByteArray) (w : World), (∀ (j : Nat) x, xs[j]? = some x → w.cell? ⟨bk, o + j, none⟩ = some (.string x)) → bk < w.heap.size → xs.length ≤ 140737488355328 → xs.length ≤ c →
    (Lib.join (xs.map (·.data.toList)) sep.data.toList).length ≤ 140737488355328 →
    Calls P g #[.slice (some ⟨bk, o, none⟩) xs.length c, .string sep] w fun e w' => e = .returned (.string ⟨(Lib.join (xs.map (·.data.toList)) sep.data.toList).toArray⟩) ∧ RowKit.Below w.heap.size w w'
theorem join_did {g : FuncId} (hg : IsJoin C.P g) {args : List Value} {h h' : AH} {v : Value} (e : joinStub C.P args h = some (v, h')) {σ : Emb} {w : World} {args' : List Value} (hR : HR E C.P C.G W0 σ h w) (hv : VL E σ args args') : CallDid E W0 C σ h w g args' v h' := by
  obtain ⟨⟨fn, h1, h2, h3⟩, hj⟩ := hg
  unfold joinStub at e
  split at e
  · rename_i b o n cp sep
    split at e
    · cases e
    · rename_i hcp
      have hcp := ble_true hcp
      split at e
      · cases e
      · rename_i hz
        have hz := ble_true hz
        split at e
        · cases e
        · rename_i r hr
          split at e
          · cases e
          · rename_i l hl
            split at e
            · cases e
            · rename_i bs hbs
              split at e
              · cases e
              · rename_i hb
                have hb := ble_true hb
                injection e with e; injection e with e1 e2; subst e1 e2
                obtain ⟨v0, r0, rfl, hv0, hv⟩ := hv.uncons
                obtain ⟨v1, r1, rfl, hv1, hv⟩ := hv.uncons
                obtain rfl := hv.of_nil
                obtain rfl := hv1.string_inv
                cases hv0 with
                | lit q => simp [lit] at q
                | slice hs hc =>
                  rename_i b' c'
                  obtain ⟨l', hl1, hl2⟩ := reads_sound hR hr hs hl
                  obtain ⟨xs, rfl, rfl⟩ := joinBytes_spec hbs hl1
                  have hlen : xs.length = n := by
                    have h1 := hl1.1
                    rw [reads_length hl] at h1
                    simpa using h1.symm
                  have hzm : zmax = 1000000 := rfl
                  have hj' := hj b' o c' xs sep w (fun j x hx => hl2 j (.string x) (by simp [hx])) (hR.dom _ _ hs).2 (by omega) (by omega) (by omega)
                  rw [hlen] at hj'
                  refine .inr ⟨?_, callsIn_wide.2 (hj'.mono fun e w' p => ?_)⟩
                  · have hnone : fn.body.isNone = false := by cases hbb : fn.body <;> simp_all
                    simp only [callFunc, Sem.run_bind, run_program, Result.andThen_ok, h1, h2, hnone, Bool.false_eq_true, if_false, Sem.run_pure]
                  · obtain ⟨rfl, hbel⟩ := p
                    exact ⟨σ, _, rfl, Ext.refl _ _, Nat.le_refl _, VR.string _, hR.grow hbel.size hbel.block ⟨hbel.os, hbel.output⟩⟩
  · cases e

end
end Go.Ev
