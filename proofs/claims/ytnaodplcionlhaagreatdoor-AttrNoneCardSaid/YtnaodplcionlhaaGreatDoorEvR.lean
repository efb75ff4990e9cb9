/- Ev: the evaluator is right: ranges over functions; all code; all of it. -/
import Derived.Test.YtnaodplcionlhaaGreatDoorEvQ
namespace Go.Ev
noncomputable section
set_option linter.unusedVariables false
set_option linter.unusedSimpArgs false
variable {E : Nat → Option Value} {W0 : World} {C : Ctx} {rec_ : Task → Option Res}

theorem evRange_sound (ok : COK E W0 C) (hrec : ∀ t r, rec_ t = some r → TaskOK E W0 C t r) {rd : Option Nat} {nt : Nat} {g : Operand} {ps : Array Tmp} {assign body : Code} {tm : Trie Value} {df : List ADef} {h : AH} {r : Res}
    (e : evRange C rec_ rd nt g ps assign body tm df h = some r) : TaskOK E W0 C (.code rd nt (.rangeFunc g ps assign body) tm df h) r := by
  unfold evRange at e
  split at e
  · cases e
  · split at e
    · cases e
    · rename_i hG
      have hG := ble_true hG
      split at e
      · cases e
      · rename_i blks hbl
        unfold evRangeGo at e
        simp only [] at e
        split at e
        · cases e
        · split at e
          · cases e
          · rename_i blks2 hbl2
            split at e
            · rename_i f first captured hg
              -- what the statement does, whatever comes of it
              have key : ∀ (ex : Ex) (tm' : Trie Value) (df' : List ADef) (h' : AH), r = .code ex tm' df' h' → TaskOK E W0 C (.code none nt (.rangeFunc g ps assign body) tm df h) (.code ex tm' df' h') := by
                intro ex tm' df' h' hr
                subst hr
                intro σ w a rd' s hrd
                cases rd' with
                | some _ => exact hrd.elim
                | none =>
                refine wpIn_rangeFunc fun fn _ => ?_
                have hgv := s.ev g _ hg
                cases hg' : a.eval g <;> rw [hg'] at hgv <;> (try (cases hgv; done))
                rename_i fn' first' captured'
                cases hgv with
                | lit q => simp [lit] at q
                | func ha hA hcc hC =>
                -- the two blocks
                have hR1 := s.hr.alloc (k := 0) (o := .noDefers) (ob := .deferred (some [])) .noDefers hG (w' := w.alloc (.deferred (some []))) rfl
                have hx1 : Ext h.next σ (ext σ h.next w.heap.size 0) := Ext.ext
                have hR1' : HR E C.P C.G W0 (ext σ h.next w.heap.size 0) { blks := blks, next := h.next + 1 } (w.alloc (.deferred (some []))) := by
                  show HF E C.P C.G W0 _ blks.get (h.next + 1) _
                  rw [put_upd hbl]; exact hR1
                have hsz1 : (w.alloc (.deferred (some []))).heap.size = w.heap.size + 1 := by simp
                have hx2 : Ext (h.next + 1) (ext σ h.next w.heap.size 0) (ext (ext σ h.next w.heap.size 0) (h.next + 1) (w.heap.size + 1) 0) := Ext.ext
                have le1 : Le σ (ext (ext σ h.next w.heap.size 0) (h.next + 1) (w.heap.size + 1) 0) := (Ext.le s.hr hx1).trans (Ext.le hR1' hx2)
                have hR2 := hR1'.alloc (k := 0) (o := .loop { state := .ready, pending := none, tmps := tm, nt := nt, params := ps, assign := assign, body := body, defers := h.next })
                  (ob := .loop { state := .ready, pending := none, fn := fn, tmps := a.tmps, params := ps, assign := assign, body := body, defers := w.heap.size })
                  (.loop rfl rfl (s.tr.mono (by rw [hsz1]; exact le1)) rfl rfl rfl (by rw [ext_ne (by simp)]; exact ext_self _ _ _ _)) (Nat.le_trans hG (Nat.le_succ _))
                  (w' := (w.alloc (.deferred (some []))).alloc (.loop { state := .ready, pending := none, fn := fn, tmps := a.tmps, params := ps, assign := assign, body := body, defers := w.heap.size })) rfl
                rw [hsz1] at hR2
                have hR2' : HR E C.P C.G W0 (ext (ext σ h.next w.heap.size 0) (h.next + 1) (w.heap.size + 1) 0) { blks := blks2, next := h.next + 1 + 1 } ((w.alloc (.deferred (some []))).alloc (.loop { state := .ready, pending := none, fn := fn, tmps := a.tmps, params := ps, assign := assign, body := body, defers := w.heap.size })) := by
                  show HF E C.P C.G W0 _ blks2.get (h.next + 1 + 1) _
                  rw [put_upd hbl2]; exact hR2
                have hargs : VL E (ext (ext σ h.next w.heap.size 0) (h.next + 1) (w.heap.size + 1) 0) (first.toList ++ [.func (.yield (h.next + 1)) #[] #[]] ++ captured.toList) (first'.toList ++ [.func (.yield (w.heap.size + 1)) #[] #[]] ++ captured'.toList) :=
                  (((VL.of_array ha hA).mono le1).append (VL.cons (.yield (ext_self _ _ _ _)) VL.nil)).append ((VL.of_array hcc hC).mono le1)
                have hx12 : Ext h.next σ (ext (ext σ h.next w.heap.size 0) (h.next + 1) (w.heap.size + 1) 0) := Ext.trans (Nat.le_succ _) hx1 hx2
                have hmark : DL E (ext (ext σ h.next w.heap.size 0) (h.next + 1) (w.heap.size + 1) 0) (.mark h.next :: df) ([{ target := .collected w.heap.size, args := #[] }] ++ a.defers) :=
                  ⟨⟨w.heap.size, by rw [ext_ne (by simp)]; exact ext_self _ _ _ _, rfl⟩, s.dl.mono le1⟩
                have hres : (resolve a.eval (rangeCall g (w.heap.size + 1)) 0).run C.P ((w.alloc (.deferred (some []))).alloc (.loop { state := .ready, pending := none, fn := fn, tmps := a.tmps, params := ps, assign := assign, body := body, defers := w.heap.size })) =
                    .ok { target := .fn (.func f) captured', args := first' ++ #[.func (.yield (w.heap.size + 1)) #[] #[]] } ((w.alloc (.deferred (some []))).alloc (.loop { state := .ready, pending := none, fn := fn, tmps := a.tmps, params := ps, assign := assign, body := body, defers := w.heap.size })) := by
                  simp only [resolve, hg', Deferred.ofValue, Sem.run_pure]
                  simp [Act.eval]
                have eargs : (first' ++ #[Value.func (Fn.yield (w.heap.size + 1)) #[] #[]] ++ captured') = (first'.toList ++ [Value.func (Fn.yield (w.heap.size + 1)) #[] #[]] ++ captured'.toList).toArray := by apply Array.ext'; simp
                split at e
                · rename_i v0 h2 h0
                  obtain ⟨hb, hcall⟩ := hrec _ _ h0 _ _ _ hR2' hargs
                  refine ⟨w.heap.size + 1, _, _, _, _, f, _, _, run_enterLoop_outer fn a.tmps ps assign body, hres, fun _ _ => FW_fn _ _, ?_, nodepth (rd' := none), FW_calls (hcall.mono fun e3 w3 hp3 => ?_)⟩
                  · show (callFunc f _).run C.P _ = _
                    rw [eargs]; exact run_callFunc ok hb _ _
                  · obtain ⟨σ3, v3, rfl, hx3, hle3, hv3, hR3⟩ := hp3
                    simp only [] at hx3 hle3
                    have hs3 : σ3 (h.next + 1) = some (w.heap.size + 1) := by rw [(hx3 _ (Nat.lt_succ_self _)).1]; exact ext_self _ _ _ _
                    split at e
                    · cases e
                    · rename_i r1 hr1
                      obtain ⟨R1, hh1, k1⟩ := loop_real hR3 hr1 hs3
                      split at e
                      · cases e
                      · rename_i hbz
                        have hnb : R1.state ≠ .busy := by
                          rw [k1.h1]; intro hh; rw [hh] at hbz; cases hbz
                        split at e
                        · cases e
                        · rename_i h3 hp
                          obtain ⟨hR4, hn4⟩ := loop_put hR3 hr1 hs3 hp (R2 := { R1 with state := .exhausted }) ⟨rfl, k1.h2, k1.h3, k1.h4, k1.h5, k1.h6, k1.h7⟩
                          have hrun4 := run_endLoop (P := C.P) hh1 hnb
                          generalize w3.putObj (w.heap.size + 1) (.loop { R1 with state := .exhausted }) = W4 at hR4 hrun4
                          refine ⟨R1.pending, W4, hrun4, ?_⟩
                          have hxx : Ext h.next σ σ3 := Ext.trans (by omega) hx12 hx3
                          have hle4 : h.next ≤ h3.next := by omega
                          have le3 : Le (ext (ext σ h.next w.heap.size 0) (h.next + 1) (w.heap.size + 1) 0) σ3 := Ext.le hR2' hx3
                          have s4 : SR E W0 C σ3 nt tm (.mark h.next :: df) h3 { a with defers := [{ target := .collected w.heap.size, args := #[] }] ++ a.defers } W4 :=
                            ⟨s.tr.mono (Ext.le s.hr hxx), hmark.mono le3, hR4⟩
                          rw [k1.h2]
                          split at e
                          · rename_i hpn
                            injection e with e; injection e with e1 e2 e3 e4; subst e1 e2 e3 e4
                            rw [hpn]
                            exact ⟨σ3, hxx, hle4, trivial, s4⟩
                          · rename_i c hpn
                            rw [hpn]
                            simp only []
                            refine wpIn_mono (hrec _ _ e σ3 _ _ none s4 trivial) fun e5 a5 w5 p5 => p5.trans hxx hle4
                · rename_i v0 h2 h0
                  obtain ⟨hb, hcall⟩ := hrec _ _ h0 _ _ _ hR2' hargs
                  injection e with e; injection e with e1 e2 e3 e4; subst e1 e2 e3 e4
                  refine ⟨w.heap.size + 1, _, _, _, _, f, _, _, run_enterLoop_outer fn a.tmps ps assign body, hres, fun _ _ => FW_fn _ _, ?_, nodepth (rd' := none), FW_calls (hcall.mono fun e3 w3 hp3 => ?_)⟩
                  · show (callFunc f _).run C.P _ = _
                    rw [eargs]; exact run_callFunc ok hb _ _
                  · obtain ⟨σ3, v3, rfl, hx3, hle3, hv3, hR3⟩ := hp3
                    simp only [] at hx3 hle3
                    have hxx : Ext h.next σ σ3 := Ext.trans (by omega) hx12 hx3
                    have le3 : Le (ext (ext σ h.next w.heap.size 0) (h.next + 1) (w.heap.size + 1) 0) σ3 := Ext.le hR2' hx3
                    exact ⟨σ3, hxx, by omega, ⟨v3, rfl, hv3⟩, s.tr.mono (Ext.le s.hr hxx), hmark.mono le3, hR3⟩
                · cases e
              have hcode : ∃ ex tm' df' h', r = .code ex tm' df' h' := by
                split at e
                · split at e
                  · cases e
                  · split at e
                    · cases e
                    · split at e
                      · cases e
                      · split at e
                        · injection e with e; exact ⟨_, _, _, _, e.symm⟩
                        · have := hrec _ _ e
                          cases r with
                          | code ex tm' df' h' => exact ⟨_, _, _, _, rfl⟩
                          | ret _ _ => exact this.elim
                          | pan _ _ => exact this.elim
                · injection e with e; exact ⟨_, _, _, _, e.symm⟩
                · cases e
              obtain ⟨ex, tm', df', h', hr⟩ := hcode
              have := key ex tm' df' h' hr
              rw [hr]; exact this
            · cases e

theorem evCode_sound (ok : COK E W0 C) {draw : Draw} (hdraw : ∀ rd nt ops tm df h r id, draw rec_ rd nt ops tm df h = some r → TaskOK E W0 C (.code rd nt (.region id ops true) tm df h) r)
    (hrec : ∀ t r, rec_ t = some r → TaskOK E W0 C t r) {rd : Option Nat} {nt : Nat} {c : Code} {tm : Trie Value} {df : List ADef} {h : AH} {r : Res}
    (e : evCode C draw rec_ rd nt c tm df h = some r) : TaskOK E W0 C (.code rd nt c tm df h) r := by
  cases c with
  | skip =>
    have e : some (Res.code .normal tm df h) = some r := e
    injection e with e; subst e
    exact fun σ w a rd' s hrd => wpIn_skip ⟨σ, Ext.refl _ _, Nat.le_refl _, trivial, s⟩
  | label l =>
    have e : some (Res.code .normal tm df h) = some r := e
    injection e with e; subst e
    exact fun σ w a rd' s hrd => wpIn_label ⟨σ, Ext.refl _ _, Nat.le_refl _, trivial, s⟩
  | exit id =>
    have e : some (Res.code (.exit id) tm df h) = some r := e
    injection e with e; subst e
    exact fun σ w a rd' s hrd => wpIn_exit ⟨σ, Ext.refl _ _, Nat.le_refl _, rfl, s⟩
  | goto l =>
    have e : some (Res.code (.goto l) tm df h) = some r := e
    injection e with e; subst e
    exact fun σ w a rd' s hrd => wpIn_goto ⟨σ, Ext.refl _ _, Nat.le_refl _, rfl, s⟩
  | ret =>
    have e : some (Res.code .ret tm df h) = some r := e
    injection e with e; subst e
    exact fun σ w a rd' s hrd => wpIn_ret ⟨σ, Ext.refl _ _, Nat.le_refl _, trivial, s⟩
  | refuse why => cases e
  | region id ops d =>
    cases d with
    | true => exact hdraw rd nt ops tm df h r id e
    | false =>
      have e : evOps C rec_ rd nt ops ops.toList tm df h = some r := e
      cases r with
      | code ex tm' df' h' =>
        intro σ w a rd' s hrd
        obtain ⟨ex1, tm1, df1, h1, hr, hwp⟩ := evOps_sound ok hrec ops.toList 0 rfl s hrd e
        injection hr with e1 e2 e3 e4; subst e1 e2 e3 e4
        refine wpIn_region ?_
        rw [List.range_eq_range']
        have : ops.toList.length = ops.size := by simp
        rw [← this]; exact hwp
      | ret _ _ => exact (evOps_code e).elim
      | pan _ _ => exact (evOps_code e).elim
  | seq x y =>
    have e : seqK rec_ rd nt y (rec_ (.code rd nt x tm df h)) = some r := e
    obtain ⟨ex, tm1, df1, h1, h0, e⟩ := onCode_some e
    have k1 := hrec _ _ h0
    rcases ifNormal_some e with ⟨rfl, e⟩ | ⟨hne, e⟩
    · have k2 := hrec _ _ e
      cases r with
      | code ex tm' df' h' =>
        intro σ w a rd' s hrd
        refine wpIn_seq (wpIn_mono (k1 σ w a rd' s hrd) fun e' a1 w1 p => ?_)
        obtain ⟨σ1, hx, hle, hex, s1⟩ := p
        obtain rfl := hex.normal
        exact wpIn_mono (k2 σ1 w1 a1 rd' s1 (hrd.mono (Ext.le s.hr hx))) fun e a w p => p.trans hx hle
      | ret _ _ => exact k2.elim
      | pan _ _ => exact k2.elim
    · rw [h0] at e; injection e with e; subst e
      intro σ w a rd' s hrd
      refine wpIn_seq (wpIn_mono (k1 σ w a rd' s hrd) fun e' a1 w1 p => ?_)
      have p0 := p
      obtain ⟨σ1, hx, hle, hex, s1⟩ := p
      exact then_of_not (hex.not_normal hne) p0
  | cond x y z =>
    have e : condK (evl C.G (tval tm) x) (rec_ (.code rd nt y tm df h)) (rec_ (.code rd nt z tm df h)) = some r := e
    rcases condK_some e with ⟨hv, e⟩ | ⟨hv, e⟩
    · have k := hrec _ _ e
      cases r with
      | code ex tm' df' h' => exact fun σ w a rd' s hrd => wpIn_cond (s.ev x _ hv).bool_inv (k σ w a rd' s hrd)
      | ret _ _ => exact k.elim
      | pan _ _ => exact k.elim
    · have k := hrec _ _ e
      cases r with
      | code ex tm' df' h' => exact fun σ w a rd' s hrd => wpIn_cond (s.ev x _ hv).bool_inv (k σ w a rd' s hrd)
      | ret _ _ => exact k.elim
      | pan _ _ => exact k.elim
  | block id b =>
    have e : blockK id (rec_ (.code rd nt b tm df h)) = some r := e
    obtain ⟨ex, tm1, df1, h1, h0, e⟩ := onCode_some e
    have k1 := hrec _ _ h0
    rcases isExit_some e with ⟨hx0, e5⟩ | ⟨hne, e5⟩
    · subst hx0
      injection e5 with e5; subst e5
      intro σ w a rd' s hrd
      refine wpIn_block (wpIn_mono (k1 σ w a rd' s hrd) fun e' a1 w1 p => ?_)
      obtain ⟨σ1, hx, hle, hex, s1⟩ := p
      cases e' <;> first | exact hex.elim | skip
      rename_i j
      have : id = j := hex
      subst this
      simp only [Exit.inBlock, if_true]
      exact ⟨σ1, hx, hle, trivial, s1⟩
    · rw [h0] at e5; injection e5 with e5; subst e5
      intro σ w a rd' s hrd
      refine wpIn_block (wpIn_mono (k1 σ w a rd' s hrd) fun e' a1 w1 p => ?_)
      obtain ⟨σ1, hx, hle, hex, s1⟩ := p
      cases e' with
      | exit j =>
        cases ex with
        | exit i =>
          have : i = j := hex
          subst this
          have hij : i ≠ id := fun hh => hne (by rw [hh])
          simp only [Exit.inBlock, hij, if_false]
          exact ⟨σ1, hx, hle, rfl, s1⟩
        | _ => exact hex.elim
      | _ => exact ⟨σ1, hx, hle, hex, s1⟩
  | loop b => exact (loop_sound hrec (r := r) e).2
  | scope b =>
    have e : rec_ (.scope rd nt b b tm df h) = some r := e
    have k := hrec _ _ e
    cases r with
    | code ex tm' df' h' => exact fun σ w a rd' s hrd => wpIn_scope_of (k σ w a rd' s hrd)
    | ret _ _ => exact k.elim
    | pan _ _ => exact k.elim
  | rangeFunc g ps assign body => exact evRange_sound ok hrec e

/-- ALL OF IT -/
theorem ev_sound (ok : COK E W0 C) {draw : Draw} (hdraw : ∀ rec_, (∀ t r, rec_ t = some r → TaskOK E W0 C t r) → ∀ rd nt ops tm df h r id, draw rec_ rd nt ops tm df h = some r → TaskOK E W0 C (.code rd nt (.region id ops true) tm df h) r) :
    ∀ (n : Nat) (t : Task) (r : Res), ev C draw n t = some r → TaskOK E W0 C t r := by
  intro n
  induction n with
  | zero => intro t r e; cases e
  | succ n ih =>
    intro t r e
    have e : evStep C draw (ev C draw n) t = some r := e
    cases t with
    | code rd nt c tm df h => exact evCode_sound ok (hdraw _ ih) ih e
    | scope rd nt body c tm df h => exact evScope_sound ih e
    | call f args h => exact evFunc_sound ok ih e
    | round l args h => exact evRound_sound ih e
    | iter rd nt b tm df h => exact (loop_sound ih (r := r) e).1

end
end Go.Ev
