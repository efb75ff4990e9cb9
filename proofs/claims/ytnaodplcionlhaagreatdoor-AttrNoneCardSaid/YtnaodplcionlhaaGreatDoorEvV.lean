/- Ev: drawn regions: every way comes to the same. -/
import Derived.Test.YtnaodplcionlhaaGreatDoorEvU
namespace Go.Ev
noncomputable section
set_option linter.unusedVariables false
set_option linter.unusedSimpArgs false
variable {E : Nat → Option Value} {W0 : World} {C : Ctx} {rec_ : Task → Option Res}

theorem want_sound' {σ : Emb} {tmps : Array Value} {pv : Nat → Option Value} (s : ∀ t v, pv t = some v → VR E σ v (tmps.getD t undef)) {ops : Array Oper} {o : Oper} {b : Bool} (e : want ops pv o = some b) : Region.wanted o (yielded ops tmps) = b := by
  unfold want at e
  unfold Region.wanted
  split at e
  · rename_i hg; injection e with e; subst e; rw [hg]
  · rename_i j bw hg
    rw [hg]
    simp only []
    split at e
    · rename_i hd
      injection e with e; subst e
      simp [yielded, hd]
    · rename_i t hd
      split at e
      · rename_i b' ht
        have hv := (s t _ ht).bool_inv
        have hy : yielded ops tmps j = some b' := by
          simp only [yielded, hd, Option.bind_some]
          have : tmps[t]? = some (.bool b') := by
            cases hx : tmps[t]? with
            | none => simp [hx, undef] at hv
            | some u => simp [hx] at hv; rw [hv]
          rw [this]
        rw [hy]
        cases b' <;> cases bw <;> simp at e <;> subst e <;> rfl
      · rename_i vs ht
        injection e with e; subst e
        have hv := s t _ ht
        have hy : yielded ops tmps j = none := by
          simp only [yielded, hd, Option.bind_some]
          cases hx : tmps[t]? with
          | none => rfl
          | some u =>
            have : tmps.getD t undef = u := by simp [hx]
            rw [this] at hv
            cases hv with
            | lit q => simp [lit] at q
            | tuple _ _ => rfl
        rw [hy]; cases bw <;> rfl
      · cases e

theorem evCall_df {ct : Option CT} {df df' : List ADef} {h h' : AH} {v : Value} (e : evCall C rec_ ct df h = some (.val v df' h')) : df' = df := by
  unfold evCall at e
  split at e
  · cases e
  · split at e
    · split at e
      · injection e with e; injection e with e1 e2 e3; exact e2.symm
      · cases e
    · split at e
      · injection e with e; injection e with e1 e2 e3; exact e2.symm
      · injection e with e; cases e
      · cases e
  · split at e
    · injection e with e; injection e with e1 e2 e3; exact e2.symm
    · cases e
theorem evOp_df {rd : Option Nat} {op : Op} {ev : Operand → Option Value} {df df' : List ADef} {h h' : AH} {v : Value} (e : evOp C rec_ rd op ev df h = some (.val v df' h')) (hd : ∀ c, op ≠ .defer c) : df' = df := by
  have slow : evSlow C rec_ rd op ev df h = some (.val v df' h') → df' = df := by
    intro e
    unfold evSlow at e
    split at e
    · split at e
      · split at e
        · injection e with e; injection e with e1 e2 e3; exact e2.symm
        · cases e
      · exact evCall_df e
    · exact absurd rfl (hd _)
    · split at e
      · injection e with e; cases e
      · cases e
    · split at e
      · injection e with e; injection e with e1 e2 e3; exact e2.symm
      · cases e
  have retv : ∀ {x : Option Value}, retV df h x = some (.val v df' h') → df' = df := by
    intro x hx
    cases x with
    | none => cases hx
    | some v => injection hx with hx; injection hx with e1 e2 e3; exact e2.symm
  have withv : ∀ {x : Option Value} {k : Value → Option OpRes}, withV x k = some (.val v df' h') → ∃ v0, k v0 = some (.val v df' h') := by
    intro x k hx
    cases x with
    | none => cases hx
    | some v0 => exact ⟨v0, hx⟩
  unfold evOp at e
  cases op
  case move => exact retv e
  case assign => exact retv e
  case load => obtain ⟨_, e⟩ := withv e; exact retv e
  case binOp => obtain ⟨_, e⟩ := withv e; obtain ⟨_, e⟩ := withv e; exact retv e
  case fieldAddr => obtain ⟨_, e⟩ := withv e; exact retv e
  case indexAddr => obtain ⟨_, e⟩ := withv e; obtain ⟨_, e⟩ := withv e; exact retv e
  all_goals exact slow e

/-! ### what the way says -/
def PFact (C : Ctx) (rec_ : Task → Option Res) (rd : Option Nat) (ops : Array Oper) (M : List Nat) (tm : Trie Value) (df : List ADef) (vF : Trie Value) (Hs : List AH) (hv : List Nat) (i : Nat) : Prop :=
  ∃ o v vals, ops.toList[i]? = some o ∧ VLe vals vF ∧ vF.get i = some v ∧
    ((want ops (pvf ops o M tm vals i) o = some false ∧ v = undef ∧ dkind o.op ≠ 2 ∧ (dkind o.op = 3 → ∃ (q : Nat) (H : AH), hv[q]? = some i ∧ Hs[q]? = some H ∧ Hs[q + 1]? = some H)) ∨
     (want ops (pvf ops o M tm vals i) o = some true ∧
       ((dkind o.op = 0 ∧ adry C.P (evl C.G (pvf ops o M tm vals i)) o.op = some v) ∨ dkind o.op = 1 ∨ dkind o.op = 2 ∨
        (dkind o.op = 3 ∧ ∃ (q : Nat) (H H' : AH) (df' : List ADef), hv[q]? = some i ∧ Hs[q]? = some H ∧ Hs[q + 1]? = some H' ∧ evOp C rec_ rd o.op (evl C.G (pvf ops o M tm vals i)) df H = some (.val v df' H')))))
theorem PFact.shift {rd : Option Nat} {ops : Array Oper} {M : List Nat} {tm : Trie Value} {df : List ADef} {vF : Trie Value} {Hs : List AH} {hv : List Nat} {i j : Nat} {H0 : AH} (p : PFact C rec_ rd ops M tm df vF Hs hv i) : PFact C rec_ rd ops M tm df vF (H0 :: Hs) (j :: hv) i := by
  obtain ⟨o, v, vals, h1, h2, h3, h4⟩ := p
  refine ⟨o, v, vals, h1, h2, h3, ?_⟩
  rcases h4 with ⟨a, b, c, d⟩ | ⟨a, b⟩
  · refine .inl ⟨a, b, c, fun hk => ?_⟩
    obtain ⟨q, H, k1, k2, k3⟩ := d hk
    exact ⟨q + 1, H, by simpa using k1, by simpa using k2, by simpa using k3⟩
  · refine .inr ⟨a, ?_⟩
    rcases b with b | b | b | ⟨b, q, H, H', df', k1, k2, k3, k4⟩
    · exact .inl b
    · exact .inr (.inl b)
    · exact .inr (.inr (.inl b))
    · exact .inr (.inr (.inr ⟨b, q + 1, H, H', df', by simpa using k1, by simpa using k2, by simpa using k3, k4⟩))

theorem VLe.refl (a : Trie Value) : VLe a a := fun _ _ h => h
theorem VLe.trans {a b c : Trie Value} (h : VLe a b) (k : VLe b c) : VLe a c := fun i v e => k i v (h i v e)
theorem VLe.put {a a' : Trie Value} {i : Nat} {v : Value} (h0 : a.get i = none) (h : a.put D i (some v) = some a') : VLe a a' ∧ a'.get i = some v ∧ ∀ m, a'.get m ≠ none → a.get m ≠ none ∨ m = i := by
  have hg := Trie.get_put _ _ _ _ _ h
  refine ⟨fun m u hm => ?_, by rw [hg, if_pos rfl], fun m hm => ?_⟩
  · rw [hg]
    by_cases e : m = i
    · subst e; rw [h0] at hm; cases hm
    · rw [if_neg e]; exact hm
  · rw [hg] at hm
    by_cases e : m = i
    · exact .inr e
    · rw [if_neg e] at hm; exact .inl hm

theorem isHv_eq {ops : Array Oper} {i : Nat} {o : Oper} (ho : ops.toList[i]? = some o) : isHv ops.toList i = Nat.beq (dkind o.op) 3 := by unfold isHv; rw [ho]

def PSpec (E : Nat → Option Value) (W0 : World) (C : Ctx) (rec_ : Task → Option Res) (rd : Option Nat) (ops : Array Oper) (M : List Nat) (tm : Trie Value) (df : List ADef) (l : List Nat) (vals : Trie Value) (cur : AH) (seen : Bool) (vF : Trie Value) (Hs : List AH) : Prop :=
  VLe vals vF ∧ Hs.length = (l.filter (isHv ops.toList)).length + 1 ∧
  (∃ H rest, Hs = H :: rest ∧ (seen = true → H = cur) ∧ cur.next ≤ H.next ∧ ∀ (σ : Emb) (w : World), HR E C.P C.G W0 σ cur w → HR E C.P C.G W0 σ H w) ∧
  (∀ i ∈ l, PFact C rec_ rd ops M tm df vF Hs (l.filter (isHv ops.toList)) i) ∧ ∀ i, vF.get i ≠ none → vals.get i ≠ none ∨ i ∈ l

theorem PSpec.light {rd : Option Nat} {ops : Array Oper} {M : List Nat} {tm : Trie Value} {df : List ADef} {i : Nat} {l : List Nat} {vals vals' : Trie Value} {cur cur' : AH} {seen seen' : Bool} {vF : Trie Value} {Hs : List AH} {o : Oper} {v : Value}
    (p : PSpec E W0 C rec_ rd ops M tm df l vals' cur' seen' vF Hs) (ho : ops.toList[i]? = some o) (hk : dkind o.op ≠ 3) (h0 : vals.get i = none) (hp : vals.put D i (some v) = some vals')
    (hs : seen = true → seen' = true ∧ cur' = cur) (hc : cur.next ≤ cur'.next) (hR : ∀ (σ : Emb) (w : World), HR E C.P C.G W0 σ cur w → HR E C.P C.G W0 σ cur' w)
    (hf : VLe vals vF → vF.get i = some v → PFact C rec_ rd ops M tm df vF Hs (l.filter (isHv ops.toList)) i) : PSpec E W0 C rec_ rd ops M tm df (i :: l) vals cur seen vF Hs := by
  obtain ⟨p1, p2, ⟨H, rest, p3, p4, p5, p6⟩, p7, p8⟩ := p
  obtain ⟨q1, q2, q3⟩ := VLe.put h0 hp
  have hfl : (i :: l).filter (isHv ops.toList) = l.filter (isHv ops.toList) := by
    rw [List.filter_cons, isHv_eq ho]
    have : Nat.beq (dkind o.op) 3 = false := by
      cases hb : Nat.beq (dkind o.op) 3 with
      | false => rfl
      | true => exact absurd (Trie.beq_true hb) hk
    rw [this]; rfl
  unfold PSpec
  rw [hfl]
  refine ⟨q1.trans p1, p2, ⟨H, rest, p3, fun h => ?_, Nat.le_trans hc p5, fun σ w h => p6 σ w (hR σ w h)⟩, fun j hj => ?_, fun j hj => ?_⟩
  · obtain ⟨e1, e2⟩ := hs h; rw [p4 e1, e2]
  · rcases List.mem_cons.1 hj with rfl | hj
    · exact hf (q1.trans p1) (p1 _ _ q2)
    · exact p7 j hj
  · rcases p8 j hj with h | h
    · rcases q3 j h with h | h
      · exact .inl h
      · exact .inr (h ▸ List.mem_cons_self)
    · exact .inr (List.mem_cons_of_mem _ h)

theorem PSpec.heavy {rd : Option Nat} {ops : Array Oper} {M : List Nat} {tm : Trie Value} {df : List ADef} {i : Nat} {l : List Nat} {vals vals' : Trie Value} {cur cur' : AH} {seen : Bool} {vF : Trie Value} {Hs : List AH} {o : Oper} {v : Value}
    (p : PSpec E W0 C rec_ rd ops M tm df l vals' cur' true vF Hs) (ho : ops.toList[i]? = some o) (hk : dkind o.op = 3) (h0 : vals.get i = none) (hp : vals.put D i (some v) = some vals')
    (hf : VLe vals vF → vF.get i = some v → Hs[0]? = some cur' → PFact C rec_ rd ops M tm df vF (cur :: Hs) (i :: l.filter (isHv ops.toList)) i) : PSpec E W0 C rec_ rd ops M tm df (i :: l) vals cur seen vF (cur :: Hs) := by
  obtain ⟨p1, p2, ⟨H, rest, p3, p4, p5, p6⟩, p7, p8⟩ := p
  obtain ⟨q1, q2, q3⟩ := VLe.put h0 hp
  have hfl : (i :: l).filter (isHv ops.toList) = i :: l.filter (isHv ops.toList) := by
    rw [List.filter_cons, isHv_eq ho, hk]; rfl
  unfold PSpec
  rw [hfl]
  refine ⟨q1.trans p1, by simp [p2], ⟨cur, Hs, rfl, fun _ => rfl, Nat.le_refl _, fun σ w h => h⟩, fun j hj => ?_, fun j hj => ?_⟩
  · rcases List.mem_cons.1 hj with rfl | hj
    · exact hf (q1.trans p1) (p1 _ _ q2) (by rw [p3, p4 rfl]; rfl)
    · exact (p7 j hj).shift
  · rcases p8 j hj with h | h
    · rcases q3 j h with h | h
      · exact .inl h
      · exact .inr (h ▸ List.mem_cons_self)
    · exact .inr (List.mem_cons_of_mem _ h)

theorem cons1_some {cur : AH} {r : Option (Trie Value × List AH)} {vF : Trie Value} {Hs : List AH} (h : cons1 cur r = some (vF, Hs)) : ∃ Hs', r = some (vF, Hs') ∧ Hs = cur :: Hs' := by
  unfold cons1 at h
  split at h
  · cases h
  · rename_i v l
    injection h with h; injection h with e1 e2
    exact ⟨l, by rw [e1], e2.symm⟩

theorem pass_spec {rd : Option Nat} {ops : Array Oper} {M : List Nat} {tm : Trie Value} {df : List ADef} : ∀ (l : List Nat) (vals : Trie Value) (cur : AH) (seen : Bool) (vF : Trie Value) (Hs : List AH),
    pass C rec_ rd ops M tm df l vals cur seen = some (vF, Hs) → PSpec E W0 C rec_ rd ops M tm df l vals cur seen vF Hs := by
  intro l
  induction l with
  | nil =>
    intro vals cur seen vF Hs h
    simp only [pass] at h
    injection h with h; injection h with e1 e2; subst e1 e2
    exact ⟨VLe.refl _, rfl, ⟨cur, [], rfl, fun _ => rfl, Nat.le_refl _, fun _ _ h => h⟩, (fun i hi => by cases hi), fun i hi => .inl hi⟩
  | cons i l ih =>
    intro vals cur seen vF Hs h
    simp only [pass] at h
    split at h
    · cases h
    · rename_i o ho
      split at h
      · cases h
      · rename_i h0
        split at h
        · cases h
        · rename_i hw
          split at h
          · cases h
          · rename_i vals' hp
            split at h
            · rename_i hk
              exact (ih _ _ _ _ _ h).light ho (by rw [hk]; decide) h0 hp (fun e => ⟨e, rfl⟩) (Nat.le_refl _) (fun _ _ h => h) fun k1 k2 => ⟨o, undef, vals, ho, k1, k2, .inl ⟨hw, rfl, by rw [hk]; decide, fun k => by rw [hk] at k; cases k⟩⟩
            · rename_i hk
              exact (ih _ _ _ _ _ h).light ho (by rw [hk]; decide) h0 hp (fun e => ⟨e, rfl⟩) (Nat.le_refl _) (fun _ _ h => h) fun k1 k2 => ⟨o, undef, vals, ho, k1, k2, .inl ⟨hw, rfl, by rw [hk]; decide, fun k => by rw [hk] at k; cases k⟩⟩
            · rename_i hk
              obtain ⟨Hs', h5, rfl⟩ := cons1_some h
              exact (ih _ _ _ _ _ h5).heavy ho hk h0 hp fun k1 k2 k3 => ⟨o, undef, vals, ho, k1, k2, .inl ⟨hw, rfl, by rw [hk]; decide, fun _ => ⟨0, cur, rfl, rfl, by simpa using k3⟩⟩⟩
            · cases h
        · rename_i hw
          split at h
          · rename_i hk
            split at h
            · cases h
            · rename_i v hv
              split at h
              · cases h
              · rename_i vals' hp
                exact (ih _ _ _ _ _ h).light ho (by rw [hk]; decide) h0 hp (fun e => ⟨e, rfl⟩) (Nat.le_refl _) (fun _ _ h => h) fun k1 k2 => ⟨o, v, vals, ho, k1, k2, .inr ⟨hw, .inl ⟨hk, hv⟩⟩⟩
          · rename_i hk
            split at h
            · cases h
            · rename_i v hv
              split at h
              · cases h
              · rename_i vals' hp
                exact (ih _ _ _ _ _ h).light ho (by rw [hk]; decide) h0 hp (fun e => ⟨e, rfl⟩) (Nat.le_refl _) (fun _ _ h => h) fun k1 k2 => ⟨o, v, vals, ho, k1, k2, .inr ⟨hw, .inr (.inl hk)⟩⟩
          · rename_i hk
            split at h
            · cases h
            · split at h
              · cases h
              · rename_i v cur' hv
                split at h
                · cases h
                · rename_i vals' hp
                  have hz : cur.next ≤ cur'.next ∧ ∀ (σ : Emb) (w : World), HR E C.P C.G W0 σ cur w → HR E C.P C.G W0 σ cur' w := by
                    unfold azeros at hv
                    split at hv
                    · cases hv
                    · split at hv
                      · cases hv
                      · split at hv
                        · cases hv
                        · rename_i blks hb
                          injection hv with hv; injection hv with e1 e2; subst e2
                          refine ⟨Nat.le_succ _, fun σ w hR => ?_⟩
                          show HF E C.P C.G W0 σ blks.get (cur.next + 1) w
                          rw [put_upd hb]; exact hR.name _
                  exact (ih _ _ _ _ _ h).light ho (by rw [hk]; decide) h0 hp (fun e => by cases e) hz.1 hz.2 fun k1 k2 => ⟨o, v, vals, ho, k1, k2, .inr ⟨hw, .inr (.inr (.inl hk))⟩⟩
          · rename_i hk
            split at h
            · rename_i v df' cur' hv
              split at h
              · cases h
              · rename_i vals' hp
                obtain ⟨Hs', h5, rfl⟩ := cons1_some h
                exact (ih _ _ _ _ _ h5).heavy ho hk h0 hp fun k1 k2 k3 => ⟨o, v, vals, ho, k1, k2, .inr ⟨hw, .inr (.inr (.inr ⟨hk, 0, cur, cur', df', rfl, rfl, by simpa using k3, hv⟩))⟩⟩
            · cases h
          · cases h

theorem tmF_spec {nt : Nat} {vF : Trie Value} : ∀ (l : List Oper) (k : Nat) (tm tm' : Trie Value), tmF nt vF l k tm = some tm' →
    (∀ t, (tm'.get t).getD undef = td (fun _ => true) vF t l k ((tm.get t).getD undef)) ∧ ∀ (j : Nat) o t, l[j]? = some o → o.dst = some t → t < nt := by
  intro l
  induction l with
  | nil =>
    intro k tm tm' h
    simp only [tmF] at h
    injection h with h; subst h
    exact ⟨fun t => rfl, fun j o t h => by simp at h⟩
  | cons o l ih =>
    intro k tm tm' h
    simp only [tmF] at h
    split at h
    · cases h
    · rename_i v hv
      split at h
      · cases h
      · rename_i tm1 ht
        obtain ⟨h1, h2⟩ := ih _ _ _ h
        cases hd : o.dst with
        | none =>
          rw [hd] at ht
          simp only [tput] at ht
          injection ht with ht; subst ht
          refine ⟨fun t => ?_, fun j p t hj hp => ?_⟩
          · rw [h1 t]; simp only [td]; rw [if_neg (by rw [hd]; simp)]
          · cases j with
            | zero => simp only [List.getElem?_cons_zero] at hj; injection hj with hj; subst hj; rw [hd] at hp; cases hp
            | succ j => exact h2 j p t (by simpa using hj) hp
        | some d =>
          rw [hd] at ht
          simp only [tput] at ht
          split at ht
          · rename_i hb
            have hb := ble_true hb
            refine ⟨fun t => ?_, fun j p t hj hp => ?_⟩
            · rw [h1 t]
              simp only [td]
              rw [Trie.get_put _ _ _ _ _ ht]
              by_cases e : t = d
              · subst e; rw [if_pos rfl, if_pos ⟨hd, trivial⟩, hv]
              · rw [if_neg e, if_neg (by rw [hd]; rintro ⟨h, -⟩; injection h with h; exact e h.symm)]
            · cases j with
              | zero => simp only [List.getElem?_cons_zero] at hj; injection hj with hj; subst hj; rw [hd] at hp; injection hp with hp; subst hp; exact hb
              | succ j => exact h2 j p t (by simpa using hj) hp
          · cases ht
theorem countB_le {hv : List Nat} {p : Nat → Bool} {q : Nat} (h : ∀ (k i : Nat), hv[k]? = some i → p i = true → k < q) : countB hv p ≤ q := by
  unfold countB
  induction hv generalizing q with
  | nil => simp
  | cons x l ih =>
    rw [List.filter_cons]
    cases q with
    | zero =>
      have hx : p x = false := by
        cases hp : p x with
        | false => rfl
        | true => exact absurd (h 0 x rfl hp) (Nat.lt_irrefl 0)
      rw [hx]
      simp only [Bool.false_eq_true, if_false]
      exact ih fun k i hk hp => absurd (h (k + 1) i (by simpa using hk) hp) (by omega)
    | succ q =>
      have := ih (q := q) fun k i hk hp => by have := h (k + 1) i (by simpa using hk) hp; omega
      split
      · simp only [List.length_cons]; omega
      · omega
theorem countB_ge {hv : List Nat} {p : Nat → Bool} {q : Nat} (hq : q ≤ hv.length) (h : ∀ (k i : Nat), hv[k]? = some i → p i = true → q ≤ k) : q + countB hv p ≤ hv.length := by
  unfold countB
  induction hv generalizing q with
  | nil => simpa using hq
  | cons x l ih =>
    rw [List.filter_cons]
    cases q with
    | zero =>
      have : (if p x = true then x :: List.filter p l else List.filter p l).length ≤ (x :: l).length := by
        have := List.length_filter_le p (x :: l)
        rwa [List.filter_cons] at this
      omega
    | succ q =>
      have hx : p x = false := by
        cases hp : p x with
        | false => rfl
        | true => exact absurd (h 0 x rfl hp) (by omega)
      rw [hx]
      simp only [Bool.false_eq_true, if_false]
      have := ih (q := q) (by simpa using hq) fun k i hk hp => by have := h (k + 1) i (by simpa using hk) hp; omega
      simp only [List.length_cons]; omega
theorem chain_spec {M : List Nat} : ∀ {l : List Nat}, chain M l = true → ∀ (k k' i j : Nat), k < k' → l[k]? = some i → l[k']? = some j → bef M i j = true := by
  intro l
  induction l with
  | nil => intro _ k k' i j _ h; simp at h
  | cons x l ih =>
    intro h k k' i j hkk hi hj
    simp only [chain, Bool.and_eq_true] at h
    cases k' with
    | zero => omega
    | succ k' =>
      simp only [List.getElem?_cons_succ] at hj
      cases k with
      | zero =>
        simp only [List.getElem?_cons_zero] at hi
        injection hi with hi; subst hi
        exact List.all_eq_true.1 h.1 j (List.mem_of_getElem? hj)
      | succ k =>
        simp only [List.getElem?_cons_succ] at hi
        exact ih h.2 k k' i j (by omega) hi hj

end
end Go.Ev
