/- Ev: the evaluator is right: deferred calls, functions. -/
import Derived.Test.YtnaodplcionlhaaGreatDoorEvO
namespace Go.Ev
noncomputable section
set_option linter.unusedVariables false
set_option linter.unusedSimpArgs false
variable {E : Nat → Option Value} {W0 : World} {C : Ctx} {rec_ : Task → Option Res}

theorem DL.of_nil {σ : Emb} {m : List Deferred} (h : DL E σ [] m) : m = [] := by cases m with
  | nil => rfl
  | cons _ _ => exact h.elim

/-- the end of a deferred call's body -/
theorem finD_sound (hrec : ∀ t r, rec_ t = some r → TaskOK E W0 C t r) {fn : Func} {nt : Nat} {b : Code} {σ : Emb} {tm : Trie Value} {h h' : AH} {pn pn' : Option (Value × Bool)} {u : FrameMode} {a : Act} {w : World} {c₀ : Frame} {cs : List Frame}
    (e : finD C fn pn (rec_ (.code none nt b tm [] h)) = some (h', pn')) (ht : TR E σ nt tm a.tmps) (hd : a.defers = []) (hR : HR E C.P C.G W0 σ h w) (hm : MR E σ pn u) :
    b.wpSIn Fence.wide 0 C.P (bodyPostS C.P fn c₀ cs fun e u' w' => ∃ v, e = .returned v ∧ ∃ σ', Ext h.next σ σ' ∧ h.next ≤ h'.next ∧ HR E C.P C.G W0 σ' h' w' ∧ MR E σ' pn' u') a ({ c₀ with mode := u } :: cs) w := by
  unfold finD at e
  have s : SR E W0 C σ nt tm [] h a w := ⟨ht, by rw [hd]; trivial, hR⟩
  split at e
  · rename_i tm1 h1 h0
    split at e
    · rename_i v hv
      injection e with e; injection e with e1 e2; subst e1 e2
      refine wpSIn_of_wpIn rfl (wpIn_mono (hrec _ _ h0 σ w a none s trivial) fun e' a1 w1 p => ?_)
      obtain ⟨σ1, hx, hle, hex, s1⟩ := p
      obtain rfl := hex.normal
      obtain ⟨v', h3, h4⟩ := evResults_sound s1.tr s1.hr hv
      exact ⟨s1.dl.of_nil, u, rfl, v', h4, v', rfl, σ1, hx, hle, s1.hr, hm.mono (Ext.le hR hx)⟩
    · cases e
  · rename_i tm1 h1 h0
    split at e
    · rename_i v hv
      injection e with e; injection e with e1 e2; subst e1 e2
      refine wpSIn_of_wpIn rfl (wpIn_mono (hrec _ _ h0 σ w a none s trivial) fun e' a1 w1 p => ?_)
      obtain ⟨σ1, hx, hle, hex, s1⟩ := p
      cases e' <;> first | exact hex.elim | skip
      obtain ⟨v', h3, h4⟩ := evResults_sound s1.tr s1.hr hv
      exact ⟨s1.dl.of_nil, u, rfl, v', h4, v', rfl, σ1, hx, hle, s1.hr, hm.mono (Ext.le hR hx)⟩
    · cases e
  · cases e

theorem evDef_sound (ok : COK E W0 C) (hrec : ∀ t r, rec_ t = some r → TaskOK E W0 C t r) {g : FuncId} {args args' : List Value} {h h' : AH} {pn pn' : Option (Value × Bool)} {σ : Emb} {w : World} {u : FrameMode}
    (e : evDef C rec_ g args h pn = some (h', pn')) (hR : HR E C.P C.G W0 σ h w) (hv : VL E σ args args') (hm : MR E σ pn u) :
    (C.fns.get g).any (·.body.isSome) = true ∧ CallsDIn Fence.wide 0 C.P g args'.toArray u w (fun e u' w' => ∃ v, e = .returned v ∧ ∃ σ', Ext h.next σ σ' ∧ h.next ≤ h'.next ∧ HR E C.P C.G W0 σ' h' w' ∧ MR E σ' pn' u') := by
  unfold evDef at e
  split at e
  · cases e
  · rename_i fn hf
    split at e
    · cases e
    · rename_i c hb
      refine ⟨by rw [hf]; simp [hb], ?_⟩
      split at e
      · cases e
      · rename_i tm htm
        have ht := startTm_sound hv htm fn.ntmps
        split at e
        · rename_i id ops b
          split at e
          · cases e
          · rename_i tm1 h1 pn1 hops
            refine callsDIn_of_wpSIn (ok.fns g fn hf) hb trivial fun c₀ cs hmode => ?_
            have hc0 : c₀ = { c₀ with mode := u } := by subst hmode; rfl
            rw [hc0]
            refine wpSIn_seq (wpSIn_region ?_)
            have := evOpsS_sound (c₀ := c₀) (cs := cs) ops.toList 0 rfl (a := { tmps := args'.toArray ++ Array.replicate (fn.ntmps - args'.toArray.size) undef, defers := [] }) ht rfl hR hm hops
            rw [List.range_eq_range']
            have hsz : ops.toList.length = ops.size := by simp
            rw [hsz] at this
            refine wpOpsSIn_mono _ this fun e' a' cs' w' hp => ?_
            obtain ⟨rfl, σ1, u1, rfl, hm1, hx1, hle1, ht1, hd1, hR1⟩ := hp
            show b.wpSIn _ _ _ _ _ _ _
            have hfin := finD_sound (c₀ := c₀) (cs := cs) hrec e ht1 hd1 hR1 hm1
            intro fb k h1' h2' h3' h4'
            obtain ⟨e2, a2, cs2, w2, hlen, hq, harr⟩ := hfin fb k h1' h2' h3' h4'
            refine ⟨e2, a2, cs2, w2, hlen, ?_, harr⟩
            cases e2 with
            | normal =>
              obtain ⟨q1, u', q2, v, q3, v1, q4, σ', q5, q6, q7, q8⟩ := hq
              exact ⟨q1, u', q2, v, q3, v1, q4, σ', Ext.trans hle1 hx1 q5, Nat.le_trans hle1 q6, q7, q8⟩
            | ret =>
              obtain ⟨q1, u', q2, v, q3, v1, q4, σ', q5, q6, q7, q8⟩ := hq
              exact ⟨q1, u', q2, v, q3, v1, q4, σ', Ext.trans hle1 hx1 q5, Nat.le_trans hle1 q6, q7, q8⟩
            | panic ch => obtain ⟨_, _, _, v1, q4, _⟩ := hq; cases q4
            | exit id => exact hq.elim
            | goto l => exact hq.elim
            | outgrown => obtain ⟨_, v1, q4, _⟩ := hq; cases q4
        · refine callsDIn_of_wpSIn (ok.fns g fn hf) hb trivial fun c₀ cs hmode => ?_
          have hc0 : c₀ = { c₀ with mode := u } := by subst hmode; rfl
          have hfin := finD_sound (c₀ := c₀) (cs := cs) hrec e (a := { tmps := args'.toArray ++ Array.replicate (fn.ntmps - args'.toArray.size) undef, defers := [] }) ht rfl hR hm
          rw [← hc0] at hfin
          exact hfin

theorem HF.kill {P : Program} {G : Nat} {σ : Emb} {bg : Nat → Option AObj} {nx : Nat} {w w' : World} (hR : HF E P G W0 σ bg nx w) {b c : Nat} {o : AObj} {ob : Obj} (hG : G ≤ b) (hb : bg b = some o) (hs : σ b = some c)
    (hh : ∀ k, w'.heap[k]? = if k = c then some ob else w.heap[k]?) (hsz : w'.heap.size = w.heap.size) (q : Quiet w w' := by exact ⟨rfl, rfl⟩) : HF E P G W0 σ (upd bg b none) nx w' := by
  have hnew : W0.heap.size ≤ c := hR.new b _ c hb hs hG
  have hd := hR.drop b
  refine ⟨fun x d e => by rw [hsz]; exact hR.dom x d e, hd.inj, fun x o1 d g1 e1 => ?_, hR.glob, hd.new, ?_, q.1.trans hR.still.1, q.2.trans hR.still.2⟩
  · by_cases hx : x = b
    · subst hx; rw [upd_self] at g1; cases g1
    · rw [upd_ne hx] at g1
      have hdc : d ≠ c := fun e => hx (hR.inj x b c (by rw [g1]; rfl) (by rw [hb]; rfl) (e ▸ e1) hs)
      obtain ⟨y, h5, h6⟩ := hR.blk x o1 d g1 e1
      exact ⟨y, by rw [hh, if_neg hdc]; exact h5, h6⟩
  · rw [hsz]
    refine ⟨hR.old.1, fun k hk => ?_⟩
    rw [hh, if_neg (by omega)]
    exact hR.old.2 k hk

/-- what a function's end must be -/
def FnPost (E : Nat → Option Value) (W0 : World) (C : Ctx) (σ : Emb) (h : AH) : Res → Ending → World → Prop
  | .ret v h' => PostRet E W0 C σ h v h'
  | .pan v h' => PostPan E W0 C σ h v h'
  | _ => fun _ _ => False
theorem FnPost.trans {σ σ1 : Emb} {h h1 : AH} {r : Res} (hx : Ext h.next σ σ1) (hle : h.next ≤ h1.next) {e : Ending} {w : World} (p : FnPost E W0 C σ1 h1 r e w) : FnPost E W0 C σ h r e w := by
  cases r with
  | ret v h' => obtain ⟨σ', v', q1, q2, q3, q4, q5⟩ := p; exact ⟨σ', v', q1, Ext.trans hle hx q2, Nat.le_trans hle q3, q4, q5⟩
  | pan v h' => obtain ⟨σ', v', q1, q2, q3, q4, q5⟩ := p; exact ⟨σ', v', q1, Ext.trans hle hx q2, Nat.le_trans hle q3, q4, q5⟩
  | code _ _ _ _ => exact p.elim

theorem leavesIn_mono {F : Fence} {n : Nat} {P : Program} {fn : Func} {tmps : Array Value} {R R' : Ending → World → Prop} (hq : ∀ e w, R e w → R' e w) : ∀ {ds : List Deferred} {u : FrameMode} {w : World}, LeavesIn F n P fn tmps R ds u w → LeavesIn F n P fn tmps R' ds u w := by
  intro ds
  induction ds with
  | nil =>
    intro u w h
    cases u with
    | run => exact h
    | returning => obtain ⟨v, h1, h2⟩ := h; exact ⟨v, h1, hq _ _ h2⟩
    | panicking ch => exact hq _ _ h
  | cons d ds ih =>
    intro u w h
    obtain ⟨h1, h2, fv, cap, f, args, h3, h4, h5, h6⟩ := h
    refine ⟨h1, h2, fv, cap, f, args, h3, h4, h5, h6.mono fun e u' w' hh => ?_⟩
    cases e with
    | returned v => exact ih hh
    | panicked ch => exact ih hh
    | outgrown => exact hq _ _ hh
theorem leavesInM_mono {F : Fence} {n : Nat} {P : Program} {fn : Func} {tmps : Array Value} {R R' : Ending → World → Prop} (hq : ∀ e w, R e w → R' e w) : ∀ {ds : List Deferred} {u : FrameMode} {w : World}, LeavesInM F n P fn tmps R ds u w → LeavesInM F n P fn tmps R' ds u w := by
  intro ds
  induction ds with
  | nil => intro u w h; exact leavesIn_mono hq h
  | cons d ds ih =>
    intro u w h
    obtain ⟨h1, h2⟩ := h
    refine ⟨h1, ?_⟩
    rcases h2 with ⟨r, w', h3, h4, h5⟩ | ⟨h2, fv, cap, f, args, h3, h4, h5, h6⟩
    · exact .inl ⟨r, w', h3, h4, ih h5⟩
    · refine .inr ⟨h2, fv, cap, f, args, h3, h4, h5, h6.mono fun e u' w' hh => ?_⟩
      cases e with
      | returned v => exact ih hh
      | panicked ch => exact ih hh
      | outgrown => exact hq _ _ hh

theorem evDefs_sound (ok : COK E W0 C) (hrec : ∀ t r, rec_ t = some r → TaskOK E W0 C t r) {fn : Func} {nt : Nat} {tm : Trie Value} {tmps : Array Value} : ∀ (ds : List ADef) {pn : Option (Value × Bool)} {h : AH} {σ : Emb} {w : World} {u : FrameMode} {dfs : List Deferred} {r : Res},
    evDefs C rec_ fn tm ds pn h = some r → TR E σ nt tm tmps → DL E σ ds dfs → HR E C.P C.G W0 σ h w → MR E σ pn u → LeavesInM Fence.wide 0 C.P fn tmps (FnPost E W0 C σ h r) dfs u w := by
  intro ds
  induction ds with
  | nil =>
    intro pn h σ w u dfs r e ht hd hR hm
    obtain rfl := hd.of_nil
    cases pn with
    | none =>
      cases u <;> first | exact hm.elim | skip
      simp only [evDefs] at e
      split at e
      · rename_i v hv
        injection e with e; subst e
        obtain ⟨v', h1, h2⟩ := evResults_sound ht hR hv
        exact ⟨v', h2, σ, v', rfl, Ext.refl _ _, Nat.le_refl _, h1, hR⟩
      · cases e
    | some p =>
      obtain ⟨v, b⟩ := p
      cases u <;> first | exact hm.elim | skip
      rename_i ch
      obtain ⟨v', hc, hv⟩ := hm
      cases b with
      | true => simp only [evDefs] at e; cases e
      | false =>
        simp only [evDefs] at e
        injection e with e; subst e
        exact ⟨σ, v', by rw [hc], Ext.refl _ _, Nat.le_refl _, hv, hR⟩
  | cons d ds ih =>
    intro pn h σ w u dfs r e ht hd hR hm
    cases dfs with
    | nil => exact hd.elim
    | cons d' dfs =>
      obtain ⟨hd1, hd2⟩ := hd
      cases d with
      | mark b =>
        obtain ⟨b', hs, rfl⟩ := hd1
        simp only [evDefs] at e
        split at e
        · cases e
        · rename_i hG
          split at e
          · rename_i hb
            split at e
            · rename_i blks hbl
              obtain ⟨ob, h1, h2⟩ := hR.blk b _ b' hb hs
              have hlt := (hR.dom b b' hs).2
              cases h2 with
              | noDefers =>
                refine ⟨hm.not_run, .inl ⟨b', w.putObj b' (.deferred none), rfl, run_takeDeferred h1, ?_⟩⟩
                have hR' : HR E C.P C.G W0 σ { h with blks := blks } (w.putObj b' (.deferred none)) := by
                  show HF E C.P C.G W0 σ blks.get h.next _
                  rw [put_upd hbl]
                  refine HF.kill hR (ble_true hG) hb hs (ob := .deferred none) (fun k => ?_) (by simp [World.putObj])
                  by_cases hk : k = b'
                  · subst hk; rw [if_pos rfl]; exact World.putObj_heap_same hlt
                  · rw [if_neg hk]; exact World.putObj_heap_other hk
                have q := ih e ht hd2 hR' hm
                exact leavesInM_mono (fun e w p => FnPost.trans (h := h) (h1 := { h with blks := blks }) (Ext.refl _ _) (Nat.le_refl _) p) q
            · cases e
          · cases e
      | call g args =>
        obtain ⟨cap, args', rfl, hv⟩ := hd1
        simp only [evDefs] at e
        split at e
        · cases e
        · rename_i h1 pn1 hdef
          obtain ⟨hb, hc⟩ := evDef_sound ok hrec hdef hR hv hm
          refine ⟨hm.not_run, .inr ⟨nodepth (rd' := none), Fn.func g, cap, g, args' ++ cap, rfl, ?_, fun _ _ => trivial, ?_⟩⟩
          · show (callFunc g (args' ++ cap)).run C.P w = _
            exact run_callFunc ok hb _ w
          · have e0 : (args' ++ cap).toList.toArray = args' ++ cap := by simp
            rw [e0] at hc
            refine CallsDIn.mono hc fun e' u' w' hp => ?_
            obtain ⟨v, rfl, σ', hx, hle, hR', hm'⟩ := hp
            exact leavesInM_mono (fun e w p => p.trans hx hle) (ih e (ht.mono (Ext.le hR hx)) (hd2.mono (Ext.le hR hx)) hR' hm'.settle)

theorem evDefs_code {fn : Func} {tm : Trie Value} : ∀ {ds : List ADef} {pn : Option (Value × Bool)} {h : AH} {ex : Ex} {tm' : Trie Value} {df : List ADef} {h' : AH}, evDefs C rec_ fn tm ds pn h = some (.code ex tm' df h') → False := by
  intro ds
  induction ds with
  | nil =>
    intro pn h ex tm' df h' e
    cases pn with
    | none => simp only [evDefs] at e; split at e <;> cases e
    | some p => obtain ⟨v, b⟩ := p; cases b <;> simp only [evDefs] at e <;> cases e
  | cons d ds ih =>
    intro pn h ex tm' df h' e
    cases d with
    | mark b =>
      simp only [evDefs] at e
      split at e
      · cases e
      · split at e
        · split at e
          · exact ih e
          · cases e
        · cases e
    | call g args =>
      simp only [evDefs] at e
      split at e
      · cases e
      · exact ih e
theorem evFunc_sound (ok : COK E W0 C) (hrec : ∀ t r, rec_ t = some r → TaskOK E W0 C t r) {f : FuncId} {args : List Value} {h : AH} {r : Res} (e : evFunc C rec_ f args h = some r) : TaskOK E W0 C (.call f args h) r := by
  have key : ∀ σ w args', HR E C.P C.G W0 σ h w → VL E σ args args' → (C.fns.get f).any (·.body.isSome) = true ∧ CallsIn Fence.wide 0 C.P f args'.toArray w (FnPost E W0 C σ h r) := by
    intro σ w args' hR hv
    unfold evFunc at e
    split at e
    · cases e
    · rename_i fn hf
      split at e
      · cases e
      · rename_i c hb
        refine ⟨by rw [hf]; simp [hb], ?_⟩
        split at e
        · cases e
        · rename_i tm htm
          have ht := startTm_sound hv htm fn.ntmps
          have s : SR E W0 C σ (args.length + (fn.ntmps - args.length)) tm [] h { tmps := args'.toArray ++ Array.replicate (fn.ntmps - args'.toArray.size) undef, defers := [] } w := ⟨ht, trivial, hR⟩
          refine callsIn_of_wp_marks (ok.fns f fn hf) hb trivial ?_
          split at e
          · rename_i tm1 df1 h1 h0
            refine wpIn_mono (hrec _ _ h0 σ w _ none s trivial) fun e' a1 w1 p => ?_
            obtain ⟨σ1, hx, hle, hex, s1⟩ := p
            obtain rfl := hex.normal
            exact leavesInM_mono (fun e w p => p.trans hx hle) (evDefs_sound ok hrec df1 e s1.tr s1.dl s1.hr (u := .returning) trivial)
          · rename_i tm1 df1 h1 h0
            refine wpIn_mono (hrec _ _ h0 σ w _ none s trivial) fun e' a1 w1 p => ?_
            obtain ⟨σ1, hx, hle, hex, s1⟩ := p
            cases e' <;> first | exact hex.elim | skip
            exact leavesInM_mono (fun e w p => p.trans hx hle) (evDefs_sound ok hrec df1 e s1.tr s1.dl s1.hr (u := .returning) trivial)
          · rename_i v tm1 df1 h1 h0
            refine wpIn_mono (hrec _ _ h0 σ w _ none s trivial) fun e' a1 w1 p => ?_
            obtain ⟨σ1, hx, hle, hex, s1⟩ := p
            cases e' <;> first | exact hex.elim | skip
            rename_i ch
            obtain ⟨v', hc, hvv⟩ := hex
            subst hc
            exact leavesInM_mono (fun e w p => p.trans hx hle) (evDefs_sound ok hrec df1 e s1.tr s1.dl s1.hr (u := .panicking [{ v := v', recovered := false }]) ⟨v', rfl, hvv⟩)
          · cases e
  cases r with
  | ret v h' => exact key
  | pan v h' => exact key
  | code ex tm df h' =>
    exfalso
    unfold evFunc at e
    split at e
    · cases e
    · split at e
      · cases e
      · split at e
        · cases e
        · split at e
          · exact evDefs_code e
          · exact evDefs_code e
          · exact evDefs_code e
          · cases e

end
end Go.Ev
