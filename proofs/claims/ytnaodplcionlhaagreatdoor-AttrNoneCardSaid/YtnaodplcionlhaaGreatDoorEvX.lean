/- Ev: a call that was reckoned ahead: it stands for itself wherever the memory has what it needs. -/
import Derived.Test.YtnaodplcionlhaaGreatDoorEvW
namespace Go.Ev
noncomputable section
set_option linter.unusedVariables false
set_option linter.unusedSimpArgs false

def bIf {α : Type} (b : Bool) (x y : α) : α := @Bool.rec (fun _ => α) y x b
theorem bIf_true {α : Type} {x y : α} : bIf true x y = x := rfl
theorem bIf_false {α : Type} {x y : α} : bIf false x y = y := rfl

/-- two equal values, the commonest first -/
def veq1 (a b : Value) : Bool :=
  match a with
  | .int k x => match b with
    | .int j y => bIf (Nat.beq (kidx k) (kidx j)) (@Int.rec (fun _ => Bool) (fun m => @Int.rec (fun _ => Bool) (fun n => Nat.beq m n) (fun _ => false) y) (fun m => @Int.rec (fun _ => Bool) (fun _ => false) (fun n => Nat.beq m n) y) x) false
    | _ => false
  | .bool x => match b with
    | .bool y => @Bool.rec (fun _ => Bool) (Bool.not y) y x
    | _ => false
  | a => veq vfuel a b
theorem veq1_sound {a b : Value} (h : veq1 a b = true) : a = b := by
  cases a with
  | int k x =>
    cases b with
    | int j y =>
      cases hk : Nat.beq (kidx k) (kidx j) with
      | false => simp only [veq1, hk, bIf_false] at h; cases h
      | true =>
        simp only [veq1, hk, bIf_true] at h
        rw [kidx_inj (Trie.beq_true hk)]
        cases x <;> cases y <;> first | (cases h; done) | (simp only [] at h; rw [Trie.beq_true h]; done) | (have h := Trie.beq_true h; subst h; rfl)
    | _ => cases h
  | bool x =>
    cases b with
    | bool y => cases x <;> cases y <;> first | rfl | (cases h; done) | (simp [veq1] at h)
    | _ => cases h
  | _ => exact veq_sound h

def oEq {α : Type} (e : α → α → Bool) (a b : Option α) : Bool := @Option.rec α (fun _ => Bool) (@Option.rec α (fun _ => Bool) true (fun _ => false) b) (fun x => @Option.rec α (fun _ => Bool) false (fun y => e x y) b) a
theorem oEq_sound {α : Type} {e : α → α → Bool} (he : ∀ x y, e x y = true → x = y) {a b : Option α} (h : oEq e a b = true) : a = b := by
  cases a <;> cases b <;> first | rfl | (cases h; done) | (rw [he _ _ h])
def tEq {α : Type} (e : α → α → Bool) (a : Trie α) : Trie α → Bool :=
  @Trie.rec α (fun _ => Trie α → Bool) (fun b => @Trie.rec α (fun _ => Bool) true (fun _ _ _ _ _ => false) b)
    (fun _ v _ il ir b => @Trie.rec α (fun _ => Bool) false (fun l' v' r' _ _ => bAnd (oEq e v v') (bAnd (il l') (ir r'))) b) a
theorem tEq_sound {α : Type} {e : α → α → Bool} (he : ∀ x y, e x y = true → x = y) : ∀ {a b : Trie α}, tEq e a b = true → a = b := by
  intro a
  induction a with
  | nil => intro b h; cases b with
    | nil => rfl
    | node => cases h
  | node l v r ihl ihr =>
    intro b h
    cases b with
    | nil => cases h
    | node l' v' r' =>
      have h : bAnd (oEq e v v') (bAnd (tEq e l l') (tEq e r r')) = true := h
      rw [bAnd_eq, bAnd_eq] at h
      simp only [Bool.and_eq_true] at h
      rw [oEq_sound he h.1, ihl h.2.1, ihr h.2.2]
def beqB (a b : Bool) : Bool := @Bool.rec (fun _ => Bool) (Bool.not b) b a
theorem beqB_sound {a b : Bool} (h : beqB a b = true) : a = b := by cases a <;> cases b <;> first | rfl | cases h
def rowEq (a b : Row) : Bool := bAnd (Nat.beq a.n b.n) (bAnd (Nat.beq a.elem b.elem) (bAnd (beqB a.exact b.exact) (tEq veq1 a.cells b.cells)))
theorem rowEq_sound {a b : Row} (h : rowEq a b = true) : a = b := by
  obtain ⟨c, n, e, x⟩ := a
  obtain ⟨c', n', e', x'⟩ := b
  simp only [rowEq, bAnd_eq, Bool.and_eq_true] at h
  rw [Trie.beq_true h.1, Trie.beq_true h.2.1, beqB_sound h.2.2.1, tEq_sound (fun x y => veq1_sound) h.2.2.2]
def entEq (a b : MapEntry) : Bool := bAnd (veq1 a.key b.key) (bAnd (veq1 a.val b.val) (Nat.beq a.born b.born))
theorem entEq_sound {a b : MapEntry} (h : entEq a b = true) : a = b := by
  obtain ⟨k, v, n⟩ := a
  obtain ⟨k', v', n'⟩ := b
  simp only [entEq, bAnd_eq, Bool.and_eq_true] at h
  rw [veq1_sound h.1, veq1_sound h.2.1, Trie.beq_true h.2.2]
def lEq {α : Type} (e : α → α → Bool) (a : List α) : List α → Bool :=
  @List.rec α (fun _ => List α → Bool) (fun b => @List.rec α (fun _ => Bool) true (fun _ _ _ => false) b)
    (fun x _ ih b => @List.rec α (fun _ => Bool) false (fun y m _ => bAnd (e x y) (ih m)) b) a
theorem lEq_sound {α : Type} {e : α → α → Bool} (he : ∀ x y, e x y = true → x = y) : ∀ {a b : List α}, lEq e a b = true → a = b := by
  intro a
  induction a with
  | nil => intro b h; cases b with
    | nil => rfl
    | cons => cases h
  | cons x a ih =>
    intro b h
    cases b with
    | nil => cases h
    | cons y b =>
      have h : bAnd (e x y) (lEq e a b) = true := h
      rw [bAnd_eq, Bool.and_eq_true] at h
      rw [he _ _ h.1, ih h.2]
def aEq (a b : AObj) : Bool :=
  match a with
  | .row r => match b with
    | .row r' => rowEq r r'
    | _ => false
  | .map es c => match b with
    | .map es' c' => bAnd (Nat.beq c c') (lEq entEq es es')
    | _ => false
  | _ => false
theorem aEq_sound {a b : AObj} (h : aEq a b = true) : a = b := by
  cases a with
  | row r => cases b with
    | row r' => rw [rowEq_sound h]
    | _ => cases h
  | map es c => cases b with
    | map es' c' =>
      have h : bAnd (Nat.beq c c') (lEq entEq es es') = true := h
      rw [bAnd_eq, Bool.and_eq_true] at h
      rw [Trie.beq_true h.1, lEq_sound (fun x y => entEq_sound) h.2]
    | _ => cases h
  | _ => cases h
/-- all blocks of the one are in the other -/
def sub (a : Trie AObj) : Trie AObj → Bool :=
  @Trie.rec AObj (fun _ => Trie AObj → Bool) (fun _ => true)
    (fun _ v _ il ir b => @Trie.rec AObj (fun _ => Bool) false (fun l' v' r' _ _ => bAnd (@Option.rec AObj (fun _ => Bool) true (fun x => oEq aEq (some x) v') v) (bAnd (il l') (ir r'))) b) a
theorem sub_sound : ∀ {a b : Trie AObj}, sub a b = true → ∀ n o, a.get n = some o → b.get n = some o := by
  intro a
  induction a with
  | nil => intro b _ n o h; rw [Trie.get_nil] at h; cases h
  | node l v r ihl ihr =>
    intro b h n o hg
    cases b with
    | nil => cases h
    | node l' v' r' =>
      have h : bAnd (@Option.rec AObj (fun _ => Bool) true (fun x => oEq aEq (some x) v') v) (bAnd (sub l l') (sub r r')) = true := h
      rw [bAnd_eq, bAnd_eq] at h
      simp only [Bool.and_eq_true] at h
      rw [Trie.get_node] at hg ⊢
      split
      · rename_i h0
        rw [if_pos h0] at hg
        subst hg
        exact (oEq_sound (fun x y => aEq_sound) h.1).symm
      · rename_i h0
        rw [if_neg h0] at hg
        split
        · rename_i h1
          rw [if_pos h1] at hg
          exact ihl h.2.1 _ _ hg
        · rename_i h1
          rw [if_neg h1] at hg
          exact ihr h.2.2 _ _ hg
def hSub (a b : AH) : Bool := bAnd (Nat.beq a.next b.next) (sub a.blks b.blks)

theorem HF.sub {E : Nat → Option Value} {P : Program} {G : Nat} {W0 : World} {σ : Emb} {bg bg' : Nat → Option AObj} {nx : Nat} {w : World} (hR : HF E P G W0 σ bg nx w) (h : ∀ n o, bg' n = some o → bg n = some o) : HF E P G W0 σ bg' nx w := by
  have is : ∀ n, (bg' n).isSome = true → (bg n).isSome = true := fun n hn => by
    obtain ⟨o, ho⟩ := Option.isSome_iff_exists.1 hn
    rw [h n o ho]; rfl
  exact ⟨hR.dom, fun b₁ b₂ c g1 g2 => hR.inj b₁ b₂ c (is _ g1) (is _ g2), fun b o c g => hR.blk b o c (h _ _ g), hR.glob, fun b o c g => hR.new b o c (h _ _ g), hR.old, hR.still⟩
theorem HR.sub {E : Nat → Option Value} {P : Program} {G : Nat} {W0 : World} {σ : Emb} {h h' : AH} {w : World} (hR : HR E P G W0 σ h w) (hs : hSub h' h = true) : HR E P G W0 σ h' w := by
  simp only [hSub, bAnd_eq, Bool.and_eq_true] at hs
  show HF E P G W0 σ h'.blks.get h'.next w
  rw [Trie.beq_true hs.1]
  exact HF.sub hR (sub_sound hs.2)

/-- the same values -/
def vlEq (a b : List Value) : Bool := lEq veq1 a b
theorem vlEq_sound {a b : List Value} (h : vlEq a b = true) : a = b := lEq_sound (fun x y => veq1_sound) h

/-- a call that was reckoned: the function, its arguments, what it needs of the memory, what it answers, what it leaves -/
structure Memo where
  f : FuncId
  args : List Value
  h : AH
  v : Value
  h' : AH
def Memo.hit (m : Memo) (args : List Value) (h : AH) : Bool := bAnd (Nat.beq m.h.next h.next) (bAnd (vlEq m.args args) (hSub m.h h))
def Memo.right (C : Ctx) (n : Nat) (m : Memo) : Bool :=
  match ev C (evDraw C) n (.call m.f m.args m.h) with
  | some (.ret v h') => bAnd (veq1 m.v v) (hSub m.h' h')
  | _ => false
def tryMemos (f : FuncId) (args : List Value) (h : AH) : List Memo → Option (Value × AH) :=
  @List.rec Memo (fun _ => Option (Value × AH)) none (fun m _ ih => bIf (bAnd (Nat.beq m.f f) (m.hit args h)) (some (m.v, m.h')) ih)
/-- a context in which some functions' calls were reckoned ahead -/
def Ctx.memo (C : Ctx) (isM : FuncId → Bool) (ms : List Memo) : Ctx :=
  { C with stub := fun f => bIf (isM f) (some fun args h => tryMemos f args h ms) (C.stub f) }

def MemoOK (E : Nat → Option Value) (W0 : World) (C : Ctx) (m : Memo) : Prop :=
  ∀ σ w args', HR E C.P C.G W0 σ m.h w → VL E σ m.args args' → (callFunc m.f args'.toArray).run C.P w = .ok (.enter m.f args'.toArray) w ∧ CallsIn Fence.wide 0 C.P m.f args'.toArray w (PostRet E W0 C σ m.h m.v m.h')
theorem Memo.ok {E : Nat → Option Value} {W0 : World} {C : Ctx} (ok : COK E W0 C) {n : Nat} {m : Memo} (h : m.right C n = true) : MemoOK E W0 C m := by
  unfold Memo.right at h
  split at h
  · rename_i v h' hev
    have k := evd_sound ok n _ _ hev
    simp only [bAnd_eq, Bool.and_eq_true] at h
    obtain ⟨e1, e2⟩ := h
    have e1 := veq1_sound e1
    subst e1
    have hn : m.h'.next = h'.next := by
      simp only [hSub, bAnd_eq, Bool.and_eq_true] at e2
      exact Trie.beq_true e2.1
    intro σ w args' hR hv
    obtain ⟨hb, hc⟩ := k σ w args' hR hv
    refine ⟨run_callFunc ok hb _ w, hc.mono fun e w' p => ?_⟩
    obtain ⟨σ', v', rfl, hx, hle, hvv, hR'⟩ := p
    exact ⟨σ', v', rfl, hx, by rw [hn]; exact hle, hvv, HR.sub hR' e2⟩
  · cases h

theorem tryMemos_some {f : FuncId} {args : List Value} {h : AH} : ∀ {ms : List Memo} {v : Value} {h' : AH}, tryMemos f args h ms = some (v, h') → ∃ m ∈ ms, m.f = f ∧ m.args = args ∧ hSub m.h h = true ∧ m.v = v ∧ m.h' = h' := by
  intro ms
  induction ms with
  | nil => intro v h' e; cases e
  | cons m ms ih =>
    intro v h' e
    have e : bIf (bAnd (Nat.beq m.f f) (m.hit args h)) (some (m.v, m.h')) (tryMemos f args h ms) = some (v, h') := e
    cases hb : bAnd (Nat.beq m.f f) (m.hit args h) with
    | false =>
      rw [hb] at e
      obtain ⟨m', hm, k⟩ := ih e
      exact ⟨m', List.mem_cons_of_mem _ hm, k⟩
    | true =>
      rw [hb] at e
      have e : some (m.v, m.h') = some (v, h') := e
      injection e with e; injection e with e1 e2
      simp only [Memo.hit, bAnd_eq, Bool.and_eq_true] at hb
      exact ⟨m, List.mem_cons_self, Trie.beq_true hb.1, vlEq_sound hb.2.2.1, hb.2.2.2, e1, e2⟩

theorem COK.memo {E : Nat → Option Value} {W0 : World} {C : Ctx} (ok : COK E W0 C) {isM : FuncId → Bool} {ms : List Memo} (hm : ∀ m ∈ ms, MemoOK E W0 C m) : COK E W0 (C.memo isM ms) := by
  refine ⟨ok.fns, ok.names, ok.meth, fun g s args h v h' hs hv σ w args' hR hvl => ?_⟩
  unfold Ctx.memo at hs
  simp only at hs
  cases hb : isM g with
  | false =>
    rw [hb] at hs
    exact ok.stub g s args h v h' hs hv σ w args' hR hvl
  | true =>
    rw [hb] at hs
    injection hs with hs; subst hs
    obtain ⟨m, hmem, rfl, rfl, h3, rfl, rfl⟩ := tryMemos_some hv
    obtain ⟨k1, k2⟩ := hm m hmem σ w args' (HR.sub hR h3) hvl
    have hn : m.h.next = h.next := by
      simp only [hSub, bAnd_eq, Bool.and_eq_true] at h3
      exact Trie.beq_true h3.1
    refine .inr ⟨k1, k2.mono fun e w' p => ?_⟩
    obtain ⟨σ', v', e1, hx, hle, hvv, hR'⟩ := p
    exact ⟨σ', v', e1, by rw [← hn]; exact hx, by rw [← hn]; exact hle, hvv, hR'⟩

end
end Go.Ev
