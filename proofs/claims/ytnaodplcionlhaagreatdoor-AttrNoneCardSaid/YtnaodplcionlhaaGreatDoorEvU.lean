/- Ev: drawn regions: temporaries, equal values. -/
import Derived.Test.YtnaodplcionlhaaGreatDoorEvT
namespace Go.Ev
noncomputable section
set_option linter.unusedVariables false
set_option linter.unusedSimpArgs false

/-- what a temporary holds when so many operations are done -/
def td (L : Nat → Bool) (vF : Trie Value) (t : Nat) : List Oper → Nat → Value → Value
  | [], _, acc => acc
  | o :: l, k, acc => if o.dst = some t ∧ L k = true then td L vF t l (k + 1) ((vF.get k).getD undef) else td L vF t l (k + 1) acc

theorem src_nil (M : List Nat) (i t k : Nat) (acc : Option Nat) : src M i t [] k acc = acc := rfl
theorem src_cons (M : List Nat) (i t k : Nat) (o : Oper) (l : List Oper) (acc : Option Nat) : src M i t (o :: l) k acc = src M i t l (k + 1) (match o.dst with
    | none => acc
    | some d => if d = t ∧ bef M k i = true then some k else acc) := by
  show src M i t l (k + 1) (@Option.rec Tmp (fun _ => Option Nat) acc (fun d => @Bool.rec (fun _ => Option Nat) acc (some k) (bAnd (Nat.beq d t) (bef M k i))) o.dst) = _
  congr 1
  cases o.dst with
  | none => rfl
  | some d =>
    show @Bool.rec (fun _ => Option Nat) acc (some k) (bAnd (Nat.beq d t) (bef M k i)) = _
    rw [bAnd_eq]
    cases h1 : Nat.beq d t with
    | false => have := Trie.beq_false h1; simp [this]
    | true =>
      have := Trie.beq_true h1
      subst this
      cases bef M k i <;> simp
def sval (base : Value) (vF : Trie Value) : Option Nat → Value
  | none => base
  | some k => (vF.get k).getD undef
theorem td_of_src {M : List Nat} {L : Nat → Bool} {vF : Trie Value} {i t : Nat} {base : Value} : ∀ (l : List Oper) (k : Nat) (acc : Option Nat), (∀ (j : Nat) o, l[j]? = some o → o.dst = some t → L (k + j) = bef M (k + j) i) →
    td L vF t l k (sval base vF acc) = sval base vF (src M i t l k acc) := by
  intro l
  induction l with
  | nil => intro k acc _; rfl
  | cons o l ih =>
    intro k acc hL
    have hL' : ∀ (j : Nat) p, l[j]? = some p → p.dst = some t → L (k + 1 + j) = bef M (k + 1 + j) i := fun j p hp hd => by
      have := hL (j + 1) p (by simpa using hp) hd
      rwa [show k + (j + 1) = k + 1 + j from by omega] at this
    rw [src_cons]
    simp only [td]
    cases hd : o.dst with
    | none => rw [if_neg (by simp)]; exact ih (k + 1) acc hL'
    | some d =>
      simp only []
      by_cases hdt : d = t
      · subst hdt
        have h0 := hL 0 o rfl hd
        simp only [Nat.add_zero] at h0
        by_cases hb : bef M k i = true
        · rw [if_pos ⟨rfl, by rw [h0]; exact hb⟩, if_pos ⟨rfl, hb⟩]; exact ih (k + 1) (some k) hL'
        · rw [if_neg (fun h => hb (by rw [← h0]; exact h.2)), if_neg (fun h => hb h.2)]; exact ih (k + 1) acc hL'
      · rw [if_neg (fun h => hdt (by injection h.1)), if_neg (fun h => hdt h.1)]; exact ih (k + 1) acc hL'

def VLe (a b : Trie Value) : Prop := ∀ k v, a.get k = some v → b.get k = some v
theorem pvf_some {ops : Array Oper} {o : Oper} {M : List Nat} {tm vals : Trie Value} {i t : Nat} {u : Value} (h : pvf ops o M tm vals i t = some u) :
    t ∈ looksD ops o ∧ ((src M i t ops.toList 0 none = none ∧ tval tm t = some u) ∨ ∃ k, src M i t ops.toList 0 none = some k ∧ vals.get k = some u) := by
  unfold pvf at h
  cases hh : has (looksD ops o) t with
  | false => rw [hh] at h; cases h
  | true =>
    rw [hh] at h
    refine ⟨has_mem.1 hh, ?_⟩
    cases hs : src M i t ops.toList 0 none with
    | none => rw [hs] at h; exact .inl ⟨rfl, h⟩
    | some k => rw [hs] at h; exact .inr ⟨k, rfl, h⟩
theorem pvf_td {ops : Array Oper} {o : Oper} {M : List Nat} {L : Nat → Bool} {tm vals vF : Trie Value} {i t : Nat} {u : Value} (hle : VLe vals vF) (hL : ∀ (j : Nat) p, ops.toList[j]? = some p → p.dst = some t → t ∈ looksD ops o → L j = bef M j i)
    (h : pvf ops o M tm vals i t = some u) : td L vF t ops.toList 0 ((tm.get t).getD undef) = u := by
  obtain ⟨hm, hh⟩ := pvf_some h
  have := td_of_src (M := M) (L := L) (vF := vF) (i := i) (t := t) (base := (tm.get t).getD undef) ops.toList 0 none (fun j p hp hd => by rw [Nat.zero_add]; exact hL j p hp hd hm)
  simp only [sval] at this
  rcases hh with ⟨hs, ht⟩ | ⟨k, hs, hk⟩
  · rw [hs] at this
    simp only [] at this
    rw [this]
    unfold tval at ht
    split at ht
    · rename_i v hv; rw [hv]; injection ht
    · rename_i hv; rw [hv]; injection ht
  · rw [hs] at this
    simp only [] at this
    rw [this, hle _ _ hk]; rfl

theorem td_congr {L L' : Nat → Bool} {vF : Trie Value} {t : Nat} : ∀ (l : List Oper) (k : Nat) (acc : Value), (∀ j o, l[j]? = some o → o.dst = some t → L (k + j) = L' (k + j)) → td L vF t l k acc = td L' vF t l k acc := by
  intro l
  induction l with
  | nil => intro k acc _; rfl
  | cons o l ih =>
    intro k acc h
    have h' : ∀ j p, l[j]? = some p → p.dst = some t → L (k + 1 + j) = L' (k + 1 + j) := fun j p hp hd => by
      have := h (j + 1) p (by simpa using hp) hd
      rwa [show k + (j + 1) = k + 1 + j from by omega] at this
    simp only [td]
    by_cases hd : o.dst = some t
    · have := h 0 o rfl hd
      simp only [Nat.add_zero] at this
      rw [this, ih (k + 1) _ h', ih (k + 1) _ h']
    · rw [if_neg (fun hh => hd hh.1), if_neg (fun hh => hd hh.1), ih (k + 1) _ h']
theorem td_none {L : Nat → Bool} {vF : Trie Value} {t : Nat} : ∀ (l : List Oper) (k : Nat) (acc : Value), (∀ j o, l[j]? = some o → o.dst = some t → L (k + j) = false) → td L vF t l k acc = acc := by
  intro l
  induction l with
  | nil => intro k acc _; rfl
  | cons o l ih =>
    intro k acc h
    have h' : ∀ j p, l[j]? = some p → p.dst = some t → L (k + 1 + j) = false := fun j p hp hd => by
      have := h (j + 1) p (by simpa using hp) hd
      rwa [show k + (j + 1) = k + 1 + j from by omega] at this
    simp only [td]
    rw [if_neg, ih (k + 1) _ h']
    rintro ⟨h1, h2⟩
    have := h 0 o rfl h1
    simp only [Nat.add_zero] at this
    rw [h2] at this; cases this
theorem td_last {L : Nat → Bool} {vF : Trie Value} {t i : Nat} {o : Oper} (hd : o.dst = some t) (hL : L i = true) : ∀ (l : List Oper) (k : Nat) (acc : Value), k ≤ i → l[i - k]? = some o →
    (∀ j p, l[j]? = some p → p.dst = some t → L (k + j) = true → k + j ≤ i) → td L vF t l k acc = (vF.get i).getD undef := by
  intro l
  induction l with
  | nil => intro k acc _ h; simp at h
  | cons p l ih =>
    intro k acc hk h hm
    have h' : ∀ j q, l[j]? = some q → q.dst = some t → L (k + 1 + j) = true → k + 1 + j ≤ i := fun j q hq hdq hLq => by
      have := hm (j + 1) q (by simpa using hq) hdq (by rwa [show k + (j + 1) = k + 1 + j from by omega])
      omega
    simp only [td]
    by_cases hki : k = i
    · subst hki
      rw [Nat.sub_self] at h
      simp only [List.getElem?_cons_zero] at h
      injection h with h; subst h
      rw [if_pos ⟨hd, hL⟩]
      refine td_none _ _ _ fun j q hq hdq => ?_
      cases hLq : L (k + 1 + j) with
      | false => rfl
      | true => have := h' j q hq hdq hLq; omega
    · have e : i - k = (i - (k + 1)) + 1 := by omega
      rw [e, List.getElem?_cons_succ] at h
      split
      · exact ih (k + 1) _ (by omega) h h'
      · exact ih (k + 1) _ (by omega) h h'

theorem veq_eq : ∀ n, (∀ a b, veq n a b = true → a = b) ∧ (∀ a b, veq.veqL n a b = true → a = b) := by
  intro n
  induction n with
  | zero => exact ⟨fun a b h => by simp [veq] at h, fun a b h => by simp [veq.veqL] at h⟩
  | succ n ih =>
    obtain ⟨ih1, ih2⟩ := ih
    constructor
    · intro a b h
      unfold veq at h
      split at h
      · rw [eq_of_beq h]
      · simp only [Bool.and_eq_true, decide_eq_true_eq] at h
        rw [kidx_inj (Trie.beq_true h.1), h.2]
      · have h1 : _ = _ := of_decide_eq_true h
        rw [ByteArray.ext (Array.toList_inj.1 h1)]
      · rfl
      · simp only [Bool.and_eq_true] at h
        rw [Trie.beq_true h.1, Trie.beq_true h.2]
      · simp only [Bool.and_eq_true] at h
        rw [Trie.beq_true h.1, Trie.beq_true h.2]
      · simp only [Bool.and_eq_true] at h
        rw [Trie.beq_true h.1.1.1, Trie.beq_true h.1.1.2, Trie.beq_true h.1.2, Trie.beq_true h.2]
      · simp only [Bool.and_eq_true] at h
        rw [Trie.beq_true h.1.1.1.1, Trie.beq_true h.1.1.1.2, Trie.beq_true h.1.1.2, Trie.beq_true h.1.2, Trie.beq_true h.2]
      · rfl
      · rw [Trie.beq_true h]
      · rfl
      · rfl
      · rw [Trie.beq_true h]
      · simp only [Bool.and_eq_true] at h
        rw [Trie.beq_true h.1.1, Array.toList_inj.1 (ih2 _ _ h.1.2), Array.toList_inj.1 (ih2 _ _ h.2)]
      · simp only [Bool.and_eq_true] at h
        rw [Trie.beq_true h.1, ih1 _ _ h.2]
      · rw [Array.toList_inj.1 (ih2 _ _ h)]
      · rw [Array.toList_inj.1 (ih2 _ _ h)]
      · cases h
    · intro a b h
      cases a with
      | nil => cases b with
        | nil => rfl
        | cons y b => simp [veq.veqL] at h
      | cons x a => cases b with
        | nil => simp [veq.veqL] at h
        | cons y b =>
          simp only [veq.veqL, Bool.and_eq_true] at h
          rw [ih1 _ _ h.1, ih2 _ _ h.2]
theorem veq_sound {n : Nat} {a b : Value} (h : veq n a b = true) : a = b := (veq_eq n).1 a b h

end
end Go.Ev
