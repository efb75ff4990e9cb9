/- Ev: drawn regions are right. -/
import Derived.Test.YtnaodplcionlhaaGreatDoorEvV
namespace Go.Ev
noncomputable section
set_option linter.unusedVariables false
set_option linter.unusedSimpArgs false
variable {E : Nat → Option Value} {W0 : World} {C : Ctx} {rec_ : Task → Option Res}

/-- what is given of a region, once and for all -/
structure DG (C : Ctx) (rec_ : Task → Option Res) (rd : Option Nat) (nt : Nat) (ops : Array Oper) (M : List Nat) (tm : Trie Value) (df : List ADef) (h : AH) (vF : Trie Value) (Hs : List AH) (hv : List Nat) (tm' : Trie Value) : Prop where
  st : Stat8 ops M
  len : Hs.length = hv.length + 1
  hvs : ∀ (k i : Nat), hv[k]? = some i → isHv ops.toList i = true
  ch : chain M hv = true
  fact : ∀ (i : Nat) o, ops[i]? = some o → PFact C rec_ rd ops M tm df vF Hs hv i
  ok : ∀ (i : Nat) o, ops[i]? = some o → okOp C ops M tm vF h Hs hv i = true
  nm : ∀ i j, isZero ops.toList i = true → isZero ops.toList j = true → okNames vF i j = true
  tmf : tmF nt vF ops.toList 0 tm = some tm'

structure DS (E : Nat → Option Value) (W0 : World) (C : Ctx) (σ0 : Emb) (nt : Nat) (ops : Array Oper) (tm : Trie Value) (df : List ADef) (h : AH) (vF : Trie Value) (Hs : List AH) (hv : List Nat) (listed : Array Bool) (σ : Emb) (q : Nat) (H : AH) (a : Act) (w : World) : Prop where
  hH : Hs[q]? = some H
  lq : ∀ (k i : Nat), hv[k]? = some i → (listed.getD i false = true ↔ k < q)
  ext : Ext h.next σ0 σ
  nx : ∀ H0, Hs[0]? = some H0 → h.next ≤ H0.next ∧ H0.next ≤ H.next
  hr : HR E C.P C.G W0 σ H w
  tr : a.tmps.size = nt ∧ ∀ t, VR E σ (td (fun i => listed.getD i false) vF t ops.toList 0 ((tm.get t).getD undef)) (a.tmps.getD t undef)
  dl : DL E σ df a.defers
  zn : ∀ i, isZero ops.toList i = true → listed.getD i false = false → ∀ N, (vF.get i).bind nameOf = some N → σ N = none
  cl : ∀ (i : Nat) o, ops[i]? = some o → listed.getD i false = true → ∀ e ∈ o.after.toList, Region.binds .any e = true → listed.getD e.on false = true
  sz : listed.size = ops.size

variable {rd rd' : Option Nat} {nt : Nat} {ops : Array Oper} {M : List Nat} {tm tm' : Trie Value} {df : List ADef} {h : AH} {vF : Trie Value} {Hs : List AH} {hv : List Nat} {listed : Array Bool} {σ0 σ : Emb} {q : Nat} {H : AH} {a : Act} {w : World} {md : Region.Mode}

theorem toL {i : Nat} {o : Oper} (ho : ops[i]? = some o) : ops.toList[i]? = some o := by simpa using ho
theorem ofL {i : Nat} {o : Oper} (ho : ops.toList[i]? = some o) : ops[i]? = some o := by simpa using ho

/-- what is listed is closed under all that goes ahead -/
theorem bef_listed (g : Stat8 ops M) (cl : ∀ (i : Nat) o, ops[i]? = some o → listed.getD i false = true → ∀ e ∈ o.after.toList, Region.binds .any e = true → listed.getD e.on false = true) :
    ∀ (i j : Nat) o, ops[i]? = some o → bef M j i = true → listed.getD i false = true → listed.getD j false = true := by
  intro i
  induction i using Nat.strongRecOn with
  | ind i ih =>
    intro j o ho hb hl
    obtain ⟨e, he, hbd, h⟩ := (g.mask i o (toL ho)).1 j hb
    have hlt := (g.mask i o (toL ho)).2 e he hbd
    have hle := cl i o ho hl e he hbd
    rcases h with h | h
    · exact h ▸ hle
    · have hi : i < ops.size := (Array.getElem?_eq_some_iff.1 ho).1
      exact ih e.on hlt j ops[e.on] (Array.getElem?_eq_getElem (by omega)) h hle

structure Rdy (ops : Array Oper) (M : List Nat) (listed : Array Bool) (i : Nat) (o : Oper) : Prop where
  ho : ops[i]? = some o
  un : listed.getD i false = false
  lt : i < ops.size
  pre : ∀ j, bef M j i = true → listed.getD j false = true
  post : ∀ j, bef M i j = true → j < ops.size → listed.getD j false = false
  edge : ∀ e ∈ o.after.toList, Region.binds .any e = true → listed.getD e.on false = true
theorem rdy_of (g : Stat8 ops M) (s : DS E W0 C σ0 nt ops tm df h vF Hs hv listed σ q H a w) {i : Nat} (hr : i ∈ Region.ready md ops listed) : ∃ o, Rdy ops M listed i o := by
  obtain ⟨h1, o, ho, h2⟩ := mem_ready.1 hr
  have lt : i < ops.size := (Array.getElem?_eq_some_iff.1 ho).1
  have hlt : i < listed.size := by rw [s.sz]; exact lt
  have un : listed.getD i false = false := by simp [hlt] at h1 ⊢; exact h1
  have edge : ∀ e ∈ o.after.toList, Region.binds .any e = true → listed.getD e.on false = true := fun e he hb => h2 e (by simpa using he) (binds_any hb)
  refine ⟨o, ho, un, lt, fun j hb => ?_, fun j hb hj => ?_, edge⟩
  · obtain ⟨e, he, hbd, h⟩ := (g.mask i o (toL ho)).1 j hb
    have hlt := (g.mask i o (toL ho)).2 e he hbd
    rcases h with h | h
    · exact h ▸ edge e he hbd
    · exact bef_listed g s.cl e.on j ops[e.on] (Array.getElem?_eq_getElem (by omega)) h (edge e he hbd)
  · cases hl : listed.getD j false with
    | false => rfl
    | true =>
      have := bef_listed g s.cl j i ops[j] (Array.getElem?_eq_getElem hj) hb hl
      rw [un] at this; cases this

theorem getD_set_self {i : Nat} (hi : i < listed.size) : (listed.setIfInBounds i true).getD i false = true := by simp [hi]
theorem getD_set_ne' {i j : Nat} (h : j ≠ i) : (listed.setIfInBounds i true).getD j false = listed.getD j false := by
  rw [Array.getD_eq_getD_getElem?, Array.getD_eq_getD_getElem?, Array.getElem?_setIfInBounds_ne (fun e => h e.symm)]

theorem look_L (g : Stat8 ops M) {i : Nat} {o : Oper} (r : Rdy ops M listed i o) {t : Nat} (ht : t ∈ looksD ops o) : ∀ (j : Nat) p, ops.toList[j]? = some p → p.dst = some t → listed.getD j false = bef M j i := by
  intro j p hp hd
  have hj : j < ops.size := (Array.getElem?_eq_some_iff.1 (ofL hp)).1
  by_cases hij : i = j
  · subst hij
    rw [r.un]
    cases hb : bef M i i with
    | false => rfl
    | true => exact absurd (bef_lt g i i o (toL r.ho) hb) (Nat.lt_irrefl _)
  · rcases g.tmp i j o p t (toL r.ho) hp hij hd ht with hb | hb
    · rw [r.post j hb hj]
      cases hb2 : bef M j i with
      | false => rfl
      | true =>
        have h1 := bef_lt g i j o (toL r.ho) hb2
        have h2 := bef_lt g j i p hp hb
        omega
    · rw [r.pre j hb, hb]

/-- what the way saw of a temporary is what lies there -/
theorem hpv (g : Stat8 ops M) (s : DS E W0 C σ0 nt ops tm df h vF Hs hv listed σ q H a w) {i : Nat} {o : Oper} (r : Rdy ops M listed i o) {vals : Trie Value} (hle : VLe vals vF) :
    ∀ t u, pvf ops o M tm vals i t = some u → VR E σ u (a.tmps.getD t undef) := by
  intro t u hu
  have := pvf_td (L := fun i => listed.getD i false) hle (fun j p hp hd ht => look_L g r ht j p hp hd) hu
  rw [← this]; exact s.tr.2 t
theorem hev (g : Stat8 ops M) (s : DS E W0 C σ0 nt ops tm df h vF Hs hv listed σ q H a w) {i : Nat} {o : Oper} (r : Rdy ops M listed i o) {vals : Trie Value} (hle : VLe vals vF) :
    ∀ x u, evl C.G (pvf ops o M tm vals i) x = some u → VR E σ u (a.eval x) := by
  intro x u hx
  exact evl_sound s.hr.glob (fun t v ht => hpv g s r hle t v ht) (fun v => rfl) (fun g => rfl) (fun f => rfl) hx

/-- one operation more -/
theorem DS.step (dg : DG C rec_ rd nt ops M tm df h vF Hs hv tm') (s : DS E W0 C σ0 nt ops tm df h vF Hs hv listed σ q H a w) {i : Nat} {o : Oper} (r : Rdy ops M listed i o) {σ' : Emb} {q' : Nat} {H' : AH} {v v' : Value} {w' : World} {ds : List Deferred}
    (hH : Hs[q']? = some H') (lq : ∀ (k j : Nat), hv[k]? = some j → ((listed.setIfInBounds i true).getD j false = true ↔ k < q')) (hle : Le σ σ') (hx : Ext h.next σ0 σ') (hnx : H.next ≤ H'.next) (hvi : vF.get i = some v) (hvv : VR E σ' v v')
    (hR : HR E C.P C.G W0 σ' H' w') (hdl : DL E σ' df ds) (zn : ∀ j, j ≠ i → isZero ops.toList j = true → listed.getD j false = false → ∀ N, (vF.get j).bind nameOf = some N → σ' N = none) :
    DS E W0 C σ0 nt ops tm df h vF Hs hv (listed.setIfInBounds i true) σ' q' H' ({ a with defers := ds }.put o.dst v') w' := by
  have hlt : i < listed.size := by rw [s.sz]; exact r.lt
  refine ⟨hH, lq, hx, fun H0 h0 => ⟨(s.nx H0 h0).1, Nat.le_trans (s.nx H0 h0).2 hnx⟩, hR, ?_, ?_, fun j hj hl N hN => ?_, fun j p hp hl e he hb => ?_, by simp [s.sz]⟩
  · have same : ∀ t, o.dst ≠ some t → td (fun j => (listed.setIfInBounds i true).getD j false) vF t ops.toList 0 ((tm.get t).getD undef) = td (fun j => listed.getD j false) vF t ops.toList 0 ((tm.get t).getD undef) := by
      intro t ht
      refine td_congr _ _ _ fun j p hp hd => ?_
      rw [Nat.zero_add]
      refine getD_set_ne' fun e => ht ?_
      subst e
      rw [toL r.ho] at hp; injection hp with hp; subst hp; exact hd
    cases hd : o.dst with
    | none =>
      refine ⟨by simpa [Act.put] using s.tr.1, fun t => ?_⟩
      rw [same t (by rw [hd]; simp)]
      exact (s.tr.2 t).mono hle
    | some d =>
      have hdn := (tmF_spec _ _ _ _ dg.tmf).2 i o d (toL r.ho) hd
      refine ⟨by simp [Act.put, s.tr.1], fun t => ?_⟩
      by_cases e : t = d
      · subst e
        have hl := td_last (L := fun j => (listed.setIfInBounds i true).getD j false) (vF := vF) hd (getD_set_self hlt) ops.toList 0 ((tm.get t).getD undef) (Nat.zero_le _) (by rw [Nat.sub_zero]; exact toL r.ho) fun j p hp hdp hL => by
          rw [Nat.zero_add] at hL ⊢
          by_cases hji : j = i
          · omega
          · have hL : (listed.setIfInBounds i true).getD j false = true := hL
            rw [getD_set_ne' hji] at hL
            have hm : t ∈ looksD ops o := by unfold looksD; rw [hd]; simp
            rw [look_L dg.st r hm j p hp hdp] at hL
            exact Nat.le_of_lt (bef_lt dg.st i j o (toL r.ho) hL)
        rw [hl, hvi]
        have : t < a.tmps.size := by rw [s.tr.1]; exact hdn
        simp [Act.put, this]; exact hvv
      · rw [same t (by rw [hd]; intro hh; injection hh with hh; exact e hh.symm)]
        have := (s.tr.2 t).mono hle
        simpa [Act.put, Array.getD_eq_getD_getElem?, Array.getElem?_setIfInBounds_ne (fun hh => e hh.symm)] using this
  · cases hd : o.dst <;> simpa [Act.put, hd] using hdl
  · by_cases e : j = i
    · subst e; rw [getD_set_self hlt] at hl; cases hl
    · rw [getD_set_ne' e] at hl; exact zn j e hj hl N hN
  · have : listed.getD e.on false = true := by
      by_cases hji : j = i
      · subst hji
        rw [r.ho] at hp; injection hp with hp; subst hp
        exact r.edge e he hb
      · rw [getD_set_ne' hji] at hl; exact s.cl j p hp hl e he hb
    by_cases hei : e.on = i
    · rw [hei]; exact getD_set_self hlt
    · rw [getD_set_ne' hei]; exact this

theorem lq_light (dg : DG C rec_ rd nt ops M tm df h vF Hs hv tm') (s : DS E W0 C σ0 nt ops tm df h vF Hs hv listed σ q H a w) {i : Nat} {o : Oper} (r : Rdy ops M listed i o) (hk : dkind o.op ≠ 3) :
    ∀ (k j : Nat), hv[k]? = some j → ((listed.setIfInBounds i true).getD j false = true ↔ k < q) := by
  intro k j hj
  have hne : j ≠ i := by
    rintro rfl
    have := dg.hvs k j hj
    rw [isHv_eq (toL r.ho)] at this
    exact hk (Trie.beq_true this)
  rw [getD_set_ne' hne]
  exact s.lq k j hj
theorem at_q (dg : DG C rec_ rd nt ops M tm df h vF Hs hv tm') (s : DS E W0 C σ0 nt ops tm df h vF Hs hv listed σ q H a w) {i k : Nat} {o : Oper} (r : Rdy ops M listed i o) (hk : hv[k]? = some i) : k = q := by
  have h1 : ¬ k < q := fun hh => by
    have := (s.lq k i hk).2 hh
    rw [r.un] at this; cases this
  rcases Nat.lt_or_ge q k with h2 | h2
  · have hlt : k < hv.length := (List.getElem?_eq_some_iff.1 hk).1
    have hq : hv[q]? = some (hv[q]'(by omega)) := List.getElem?_eq_getElem (by omega)
    have hb := chain_spec dg.ch q k _ i h2 hq hk
    have := (s.lq q _ hq).1 (r.pre _ hb)
    omega
  · omega
theorem lq_heavy (dg : DG C rec_ rd nt ops M tm df h vF Hs hv tm') (s : DS E W0 C σ0 nt ops tm df h vF Hs hv listed σ q H a w) {i : Nat} {o : Oper} (r : Rdy ops M listed i o) (hq : hv[q]? = some i) :
    ∀ (k j : Nat), hv[k]? = some j → ((listed.setIfInBounds i true).getD j false = true ↔ k < q + 1) := by
  intro k j hj
  have hlt : i < listed.size := by rw [s.sz]; exact r.lt
  by_cases e : j = i
  · subst e
    have := at_q dg s r hj
    rw [getD_set_self hlt]
    simp; omega
  · rw [getD_set_ne' e, s.lq k j hj]
    have : k ≠ q := by
      rintro rfl
      rw [hq] at hj; injection hj with hj; exact e hj.symm
    omega
theorem q_le (dg : DG C rec_ rd nt ops M tm df h vF Hs hv tm') (s : DS E W0 C σ0 nt ops tm df h vF Hs hv listed σ q H a w) : q ≤ hv.length := by
  have := (List.getElem?_eq_some_iff.1 s.hH).1
  have := dg.len
  omega

theorem dstep (ok : COK E W0 C) (hrec : ∀ t r, rec_ t = some r → TaskOK E W0 C t r) (hrd : RD σ0 rd rd') (dom0 : ∀ b c, σ0 b = some c → b < h.next) (dg : DG C rec_ rd nt ops M tm df h vF Hs hv tm')
    (s : DS E W0 C σ0 nt ops tm df h vF Hs hv listed σ q H a w) {i : Nat} (hr : i ∈ Region.ready md ops listed) (Q : Exit → Act → World → Prop) :
    wpOpIn (FW rd') 0 C.P ops Q i (fun a' w' => ∃ σ' q' H', DS E W0 C σ0 nt ops tm df h vF Hs hv (listed.setIfInBounds i true) σ' q' H' a' w') a w := by
  obtain ⟨o, r⟩ := rdy_of dg.st s hr
  have le0 : Le σ0 σ := fun b c e => by
    have := s.ext b (dom0 b c e)
    exact ⟨by rw [this.1]; exact e, this.2⟩
  have hrd1 : RD σ rd rd' := hrd.mono le0
  unfold Go.wpOpIn
  rw [r.ho]
  dsimp only
  obtain ⟨o', v, vals, ho', hle, hvi, hf⟩ := dg.fact i o r.ho
  have : o' = o := by rw [toL r.ho] at ho'; injection ho' with ho'; exact ho'.symm
  subst this
  have hp := hpv dg.st s r hle
  have he := hev dg.st s r hle
  have hmem : h.next ≤ H.next ∧ ∀ H0, Hs[0]? = some H0 → H0.next ≤ H.next := by
    have h0 : 0 < Hs.length := by rw [dg.len]; omega
    exact ⟨Nat.le_trans (s.nx _ (List.getElem?_eq_getElem h0)).1 (s.nx _ (List.getElem?_eq_getElem h0)).2, fun H0 e => (s.nx H0 e).2⟩
  have zname : ∀ j, isZero ops.toList j = true → ∀ N, (vF.get j).bind nameOf = some N → h.next ≤ N ∧ N < H.next := by
    intro j hj N hN
    unfold isZero at hj
    split at hj
    · rename_i p hp
      have hk := Trie.beq_true hj
      have hok := dg.ok j p (ofL hp)
      unfold okOp at hok
      rw [hp] at hok
      split at hok
      · rename_i o2 v2 e1 e2
        injection e1 with e1; subst e1
        rw [hk] at hok
        simp only [okZero] at hok
        split at hok
        · rename_i e n k N' hz hN'
          simp only [Bool.and_eq_true] at hok
          obtain ⟨⟨⟨⟨k1, k2⟩, k3⟩, k4⟩, k5⟩ := hok
          rw [e2] at hN
          simp only [Option.bind_some] at hN
          rw [hN'] at hN; injection hN with hN; subst hN
          refine ⟨ble_true k2, ?_⟩
          split at k4
          · rename_i H0 h0
            have := ble_true k4
            have := hmem.2 H0 h0
            omega
          · cases k4
        · cases hok
      · cases hok
    · cases hj
  have zn1 : ∀ {σ' : Emb}, Ext H.next σ σ' → ∀ j, j ≠ i → isZero ops.toList j = true → listed.getD j false = false → ∀ N, (vF.get j).bind nameOf = some N → σ' N = none := by
    intro σ' hx j _ hj hl N hN
    rw [(hx N (zname j hj N hN).2).1]
    exact s.zn j hj hl N hN
  rcases hf with ⟨hw, rfl, hk2, hk3⟩ | ⟨hw, hf⟩
  · rw [want_sound' hp hw]
    simp only [Bool.false_eq_true, if_false]
    refine ⟨fun f _ => FW_fn _ f, ?_⟩
    by_cases h3 : dkind o'.op = 3
    · obtain ⟨q1, H1, e1, e2, e3⟩ := hk3 h3
      obtain rfl := at_q dg s r e1
      have : H1 = H := by rw [s.hH] at e2; injection e2 with e2; exact e2.symm
      subst this
      exact ⟨σ, q1 + 1, H1, s.step dg r (ds := a.defers) e3 (lq_heavy dg s r e1) (Le.refl _) s.ext (Nat.le_refl _) hvi VR.undef s.hr s.dl (zn1 (Ext.refl _ _))⟩
    · exact ⟨σ, q, H, s.step dg r (ds := a.defers) s.hH (lq_light dg s r h3) (Le.refl _) s.ext (Nat.le_refl _) hvi VR.undef s.hr s.dl (zn1 (Ext.refl _ _))⟩
  · rw [want_sound' hp hw]
    simp only [if_true]
    have nodef : dkind o'.op ≠ 4 → ∀ c, o'.op ≠ .defer c := fun h4 c hc => h4 (by rw [hc]; rfl)
    rcases hf with ⟨hk, hd⟩ | hk | hk | ⟨hk, q1, H1, H', df', e1, e2, e3, hop⟩
    · obtain ⟨v', h1, h2⟩ := adry_sound (o := o') (ρ := a.eval) he hd
      refine did_post (rd' := rd') s.hr s.dl (nodef (by rw [hk]; decide)) ⟨σ, v', w, .inl (h2 w), Ext.refl _ _, h1, s.hr, Nat.le_refl _⟩ _ Q fun σ' v' w' ds hx hn hvv hR hds => ?_
      exact ⟨σ', q, H, s.step dg r s.hH (lq_light dg s r (by rw [hk]; decide)) (Ext.le s.hr hx) (Ext.trans hmem.1 s.ext hx) (Nat.le_refl _) hvi hvv hR hds (zn1 hx)⟩
    · have hok := dg.ok i o' r.ho
      unfold okOp at hok
      rw [toL r.ho, hvi] at hok
      simp only [hk] at hok
      have hp2 := hpv dg.st s r (VLe.refl vF)
      have he2 := hev dg.st s r (VLe.refl vF)
      split at hok
      · have hq := List.all_eq_true.1 hok q (List.mem_range.2 (Nat.lt_succ_of_le (q_le dg s)))
        unfold okRead at hq
        simp only [Bool.or_eq_true] at hq
        rcases hq with (hq | hq) | hq
        · have := ble_true hq
          have := countB_le (hv := hv) (p := fun j => bef M j i) (q := q) fun k j hj hb => (s.lq k j hj).1 (r.pre j hb)
          omega
        · have := ble_true hq
          have := countB_ge (hv := hv) (p := fun j => bef M i j) (q_le dg s) fun k j hj hb => by
            have hjs : j < ops.size := by simpa using isHv_lt (dg.hvs k j hj)
            have hl := r.post j hb hjs
            rcases Nat.lt_or_ge k q with h' | h'
            · have := (s.lq k j hj).2 h'; rw [hl] at this; cases this
            · exact h'
          omega
        · rw [s.hH] at hq
          simp only [] at hq
          split at hq
          · rename_i u hu
            have := veq_sound hq
            subst this
            obtain ⟨v', h1, h2⟩ := aread_sound s.hr (o := o') (ρ := a.eval) he2 hu
            refine did_post (rd' := rd') s.hr s.dl (nodef (by rw [hk]; decide)) ⟨σ, v', w, .inl h2, Ext.refl _ _, h1, s.hr, Nat.le_refl _⟩ _ Q fun σ' v' w' ds hx hn hvv hR hds => ?_
            exact ⟨σ', q, H, s.step dg r s.hH (lq_light dg s r (by rw [hk]; decide)) (Ext.le s.hr hx) (Ext.trans hmem.1 s.ext hx) (Nat.le_refl _) hvi hvv hR hds (zn1 hx)⟩
          · cases hq
      · rename_i hw2
        have h1 := want_sound' hp hw
        have h2 := want_sound' hp2 hw2
        rw [h1] at h2; cases h2
      · cases hok
    · have hok := dg.ok i o' r.ho
      unfold okOp at hok
      rw [toL r.ho, hvi] at hok
      simp only [hk, okZero] at hok
      have he2 := hev dg.st s r (VLe.refl vF)
      have hzi : isZero ops.toList i = true := by unfold isZero; rw [toL r.ho]; simp only [hk]; rfl
      split at hok
      · rename_i e n k N hz hN
        simp only [Bool.and_eq_true] at hok
        obtain ⟨⟨⟨⟨k1, k2⟩, k3⟩, k4⟩, k5⟩ := hok
        have k1 := veq_sound k1
        have hbn : (vF.get i).bind nameOf = some N := by rw [hvi]; exact hN
        have hnone := s.zn i hzi r.un N hbn
        have hNb := zname i hzi N hbn
        have hq := List.all_eq_true.1 k5 q (List.mem_range.2 (Nat.lt_succ_of_le (q_le dg s)))
        unfold okZeroAt at hq
        simp only [Bool.or_eq_true] at hq
        have hrow : H.blks.get N = some (.row ⟨.nil, n, e, true⟩) := by
          rcases hq with hq | hq
          · have := ble_true hq
            have := countB_ge (hv := hv) (p := fun j => bef M i j) (q_le dg s) fun k j hj hb => by
              have hjs : j < ops.size := by simpa using isHv_lt (dg.hvs k j hj)
              have hl := r.post j hb hjs
              rcases Nat.lt_or_ge k q with h' | h'
              · have := (s.lq k j hj).2 h'; rw [hl] at this; cases this
              · exact h'
            omega
          · rw [s.hH] at hq
            simp only [zeroRow] at hq
            split at hq
            · rename_i n' e' hg
              simp only [Bool.and_eq_true] at hq
              rw [hg, Trie.beq_true hq.1, Trie.beq_true hq.2]
            · cases hq
        obtain ⟨c, h1, h2⟩ := azero_sound (o := o') (ρ := a.eval) (σ := σ) he2 hz
        have hpl := s.hr.place (b := N) (k := 0) (o := .row ⟨.nil, n, e, true⟩) (ob := .cells c e (0, 0)) hnone (h2 _) hrow hNb.2 (ble_true k3) (w' := w.alloc (.cells c e)) rfl
        have hle' : Le σ (ext σ N w.heap.size 0) := fun x y exy => by
          by_cases hx : x = N
          · subst hx; rw [hnone] at exy; cases exy
          · rw [ext_ne hx]; exact ⟨exy, ext_sl_ne hx⟩
        have hx' : Ext h.next σ0 (ext σ N w.heap.size 0) := fun x hx => by
          have hne : x ≠ N := by omega
          rw [ext_ne hne, ext_sl_ne hne]; exact s.ext x hx
        refine ⟨fun f _ => FW_fn _ f, ?_⟩
        rw [sem_at (nodef (by rw [hk]; decide)), h1 w]
        refine ⟨ext σ N w.heap.size 0, q, H, s.step dg r (ds := a.defers) s.hH (lq_light dg s r (by rw [hk]; decide)) hle' hx' (Nat.le_refl _) hvi ?_ hpl (s.dl.mono hle') fun j hji hj hl N' hN' => ?_⟩
        · rw [← k1]; exact zval_vr k (ext_self _ _ _ _)
        · have hnn : N' ≠ N := by
            have := dg.nm i j hzi hj
            unfold okNames at this
            rw [hbn, hN'] at this
            simp only [Bool.or_eq_true] at this
            rcases this with h' | h'
            · exact absurd (Trie.beq_true h').symm hji
            · rintro rfl
              simp at h'
          rw [ext_ne hnn]
          exact s.zn j hj hl N' hN'
      · cases hok
    · obtain rfl := at_q dg s r e1
      have : H1 = H := by rw [s.hH] at e2; injection e2 with e2; exact e2.symm
      subst this
      have hdf := evOp_df hop (nodef (by rw [hk]; decide))
      subst hdf
      refine evOp_sound ok hrec s.hr s.dl he hrd1 hop _ Q fun σ' v' w' ds hx hn hvv hR hds => ?_
      exact ⟨σ', q1 + 1, H', s.step dg r e3 (lq_heavy dg s r e1) (Ext.le s.hr hx) (Ext.trans hmem.1 s.ext hx) hn hvi hvv hR hds (zn1 hx)⟩

theorem count_set {i : Nat} (hi : i < listed.size) (hl : listed.getD i false = false) : (listed.setIfInBounds i true).toList.count false + 1 = listed.toList.count false := by
  have h1 : listed.toList[i]'(by simpa using hi) = false := by simpa [hi] using hl
  have h2 : (listed.setIfInBounds i true).toList = listed.toList.set i true := by simp
  have h3 : 0 < listed.toList.count false := List.count_pos_iff.2 (h1 ▸ List.getElem_mem _)
  rw [h2, List.count_set (by simpa using hi), h1]
  simp only [beq_self_eq_true, if_true]
  have : (true == false) = false := rfl
  rw [this]
  simp only [Bool.false_eq_true, if_false]
  omega

theorem dall (ok : COK E W0 C) (hrec : ∀ t r, rec_ t = some r → TaskOK E W0 C t r) (hrd : RD σ0 rd rd') (dom0 : ∀ b c, σ0 b = some c → b < h.next) (dg : DG C rec_ rd nt ops M tm df h vF Hs hv tm') {h' : AH} (hh' : Hs[hv.length]? = some h') :
    ∀ (fuel : Nat) (listed : Array Bool) (σ : Emb) (q : Nat) (H : AH) (a : Act) (w : World), DS E W0 C σ0 nt ops tm df h vF Hs hv listed σ q H a w → listed.toList.count false ≤ fuel →
      wpAnyIn (FW rd') 0 C.P md ops (Post E W0 C σ0 nt h .normal tm' df h') fuel listed a w := by
  have fin : ∀ (listed : Array Bool) (σ : Emb) (q : Nat) (H : AH) (a : Act) (w : World), DS E W0 C σ0 nt ops tm df h vF Hs hv listed σ q H a w → Region.ready md ops listed = [] → Post E W0 C σ0 nt h .normal tm' df h' .normal a w := by
    intro listed σ q H a w s hr
    obtain ⟨ord, ho⟩ := dg.st.ord md
    have all : ∀ i, i < ops.size → listed.getD i false = true := fun i hi => (okOrd_ready s.sz ord 0 ho (fun i hi => by simp at hi) hr i hi).2
    have hq : q = hv.length := by
      have h1 := q_le dg s
      rcases Nat.lt_or_ge q hv.length with h2 | h2
      · have hk : hv[q]? = some hv[q] := List.getElem?_eq_getElem h2
        have hjs : hv[q] < ops.size := by simpa using isHv_lt (dg.hvs q _ hk)
        have := (s.lq q _ hk).1 (all _ hjs)
        omega
      · omega
    subst hq
    have : H = h' := by have := s.hH; rw [hh'] at this; injection this with this; exact this.symm
    subst this
    have h0 : 0 < Hs.length := by rw [dg.len]; omega
    have hn := s.nx _ (List.getElem?_eq_getElem h0)
    refine ⟨σ, s.ext, Nat.le_trans hn.1 hn.2, trivial, ⟨s.tr.1, fun t => ?_⟩, s.dl, s.hr⟩
    rw [(tmF_spec _ _ _ _ dg.tmf).1 t]
    have : td (fun _ => true) vF t ops.toList 0 ((tm.get t).getD undef) = td (fun i => listed.getD i false) vF t ops.toList 0 ((tm.get t).getD undef) := by
      refine td_congr _ _ _ fun j p hp hd => ?_
      rw [Nat.zero_add]
      exact (all j (Array.getElem?_eq_some_iff.1 (ofL hp)).1).symm
    rw [this]; exact s.tr.2 t
  intro fuel
  induction fuel with
  | zero =>
    intro listed σ q H a w s hc
    have hr : Region.ready md ops listed = [] := by
      cases hr : Region.ready md ops listed with
      | nil => rfl
      | cons i l =>
        obtain ⟨o, r⟩ := rdy_of dg.st s (i := i) (md := md) (by rw [hr]; exact List.mem_cons_self)
        have := count_set (listed := listed) (by rw [s.sz]; exact r.lt) r.un
        omega
    exact ⟨hr, fin _ _ _ _ _ _ s hr⟩
  | succ fuel ih =>
    intro listed σ q H a w s hc
    refine ⟨fin _ _ _ _ _ _ s, fun i hi => ?_⟩
    refine wpOpIn_mono (fun a' w' hh => ?_) (dstep ok hrec hrd dom0 dg s hi _)
    obtain ⟨σ', q', H', s'⟩ := hh
    obtain ⟨o, r⟩ := rdy_of dg.st s hi
    have := count_set (listed := listed) (by rw [s.sz]; exact r.lt) r.un
    exact ih _ σ' q' H' a' w' s' (by omega)

theorem evDraw_sound (ok : COK E W0 C) (hrec : ∀ t r, rec_ t = some r → TaskOK E W0 C t r) (rd : Option Nat) (nt : Nat) (ops : Array Oper) (tm : Trie Value) (df : List ADef) (h : AH) (r : Res) (id : Nat)
    (e : evDraw C rec_ rd nt ops tm df h = some r) : TaskOK E W0 C (.code rd nt (.region id ops true) tm df h) r := by
  unfold evDraw at e
  split at e
  · cases e
  · rename_i hst
    split at e
    · cases e
    · rename_i vF Hs hp
      split at e
      · cases e
      · rename_i hck
        simp only [Bool.and_eq_true] at hck
        obtain ⟨⟨c1, c2⟩, c3⟩ := hck
        split at e
        · rename_i tm' h' ht hh
          injection e with e; subst e
          have hps : ∀ (E : Nat → Option Value) (W0 : World), _ := fun E W0 => pass_spec (E := E) (W0 := W0) _ _ _ _ _ _ hp
          intro σ w a rd' s hrd
          obtain ⟨p1, p2, ⟨H, rest, p3, p4, p5, p6⟩, p7, p8⟩ := hps E W0
          have hok : ∀ (i : Nat) o, ops[i]? = some o → okOp C ops (masks ops.toList []) tm vF h Hs ((plan ops.toList).filter (isHv ops.toList)) i = true := fun i o ho =>
            List.all_eq_true.1 c1 i (List.mem_range.2 (by simpa using (Array.getElem?_eq_some_iff.1 ho).1))
          have dg : DG C rec_ rd nt ops (masks ops.toList []) tm df h vF Hs ((plan ops.toList).filter (isHv ops.toList)) tm' := by
            refine ⟨static_spec hst, p2, fun k i hk => (List.mem_filter.1 (List.mem_of_getElem? hk)).2, c3, fun i o ho => ?_, hok, fun i j hi hj => ?_, ht⟩
            · have := hok i o ho
              unfold okOp at this
              rw [toL ho] at this
              split at this
              · rename_i o2 v e1 e2
                rcases p8 i (by rw [e2]; simp) with h1 | h1
                · exact absurd rfl h1
                · exact p7 i h1
              · cases this
            · have lt : ∀ x, isZero ops.toList x = true → x ∈ zeros ops.toList := fun x hx => List.mem_filter.2 ⟨List.mem_range.2 (by
                unfold isZero at hx
                split at hx
                · rename_i o ho; exact (List.getElem?_eq_some_iff.1 ho).1
                · cases hx), hx⟩
              exact allPairs_spec c2 (lt i hi) (lt j hj)
          have hR0 : HR E C.P C.G W0 σ h { w with drawn := w.drawn + 1 } := s.hr.of_heap rfl
          have s0 : DS E W0 C σ nt ops tm df h vF Hs ((plan ops.toList).filter (isHv ops.toList)) (Array.replicate ops.size false) σ 0 H a { w with drawn := w.drawn + 1 } := by
            have un : ∀ i, (Array.replicate ops.size false).getD i false = false := fun i => by
              rw [Array.getD_eq_getD_getElem?, Array.getElem?_replicate]; split <;> rfl
            refine ⟨by rw [p3]; rfl, fun k i hk => by rw [un]; simp, Ext.refl _ _, fun H0 h0 => ?_, p6 _ _ hR0, ⟨s.tr.1, fun t => ?_⟩, s.dl, fun i hi _ N hN => ?_, fun i o ho hl => (by rw [un] at hl; cases hl), by simp⟩
            · rw [p3] at h0; injection h0 with h0; subst h0; exact ⟨p5, Nat.le_refl _⟩
            · rw [td_none _ _ _ fun j o _ _ => un _]; exact s.tr.2 t
            · -- a zero block's name is new
              have hb : h.next ≤ N := by
                unfold isZero at hi
                split at hi
                · rename_i p hp2
                  have hk := Trie.beq_true hi
                  have hok := hok i p (ofL hp2)
                  unfold okOp at hok
                  rw [hp2] at hok
                  split at hok
                  · rename_i o2 v2 e1 e2
                    injection e1 with e1; subst e1
                    rw [hk] at hok
                    simp only [okZero] at hok
                    split at hok
                    · rename_i e n k N' hz hN'
                      simp only [Bool.and_eq_true] at hok
                      rw [e2] at hN
                      simp only [Option.bind_some] at hN
                      rw [hN'] at hN; injection hN with hN; subst hN
                      exact ble_true hok.1.1.1.2
                    · cases hok
                  · cases hok
                · cases hi
              cases hs : σ N with
              | none => rfl
              | some c => have := (s.hr.dom N c hs).1; omega
          refine wpIn_region_draw fun t => ?_
          have dom0 : ∀ b c, σ b = some c → b < h.next := fun b c e => (s.hr.dom b c e).1
          have cnt : (Array.replicate ops.size false).toList.count false ≤ ops.size := by simp
          have any : ∀ md t, wpOpsIn (FW rd') 0 C.P ops (Post E W0 C σ nt h .normal tm' df h') (Region.linearise md ops t) a { w with drawn := w.drawn + 1 } := fun md t =>
            wpAnyIn_sound ops.size t _ a _ (dall (md := md) ok hrec hrd dom0 dg hh ops.size _ σ 0 H a _ s0 cnt)
          unfold Region.schedule
          split
          · exact any _ _
          · exact any _ _
        · cases e

/-- ALL OF IT, drawn regions too -/
theorem evd_sound (ok : COK E W0 C) : ∀ (n : Nat) (t : Task) (r : Res), ev C (evDraw C) n t = some r → TaskOK E W0 C t r :=
  ev_sound ok fun rec_ hrec rd nt ops tm df h r id e => evDraw_sound ok hrec rd nt ops tm df h r id e

end
end Go.Ev
