/- Ev: drawn regions: what the static checks say. -/
import Derived.Test.YtnaodplcionlhaaGreatDoorEvS
namespace Go.Ev
noncomputable section
set_option linter.unusedVariables false
set_option linter.unusedSimpArgs false

theorem testBit_lor (a b i : Nat) : Nat.testBit (Nat.lor a b) i = (Nat.testBit a i || Nat.testBit b i) := Nat.testBit_or a b i
theorem testBit_pow (n i : Nat) : Nat.testBit (Nat.pow 2 n) i = decide (n = i) := Nat.testBit_two_pow
theorem bef_eq (M : List Nat) (i j : Nat) : bef M i j = Nat.testBit (M.getD j 0) i := by
  unfold bef
  rw [Nat.testBit_eq_decide_div_mod_eq]
  have e : Nat.land (Nat.shiftRight (M.getD j 0) i) 1 = M.getD j 0 / 2 ^ i % 2 := by
    show (M.getD j 0 >>> i) &&& 1 = _
    rw [Nat.and_one_is_mod, Nat.shiftRight_eq_div_pow]
  rw [e]
  cases hb : Nat.beq (M.getD j 0 / 2 ^ i % 2) 1 with
  | true => rw [Trie.beq_true hb]; rfl
  | false => have := Trie.beq_false hb; exact (decide_eq_false this).symm
theorem maskOf_bit {M : List Nat} {j : Nat} : ∀ {es : List Edge}, Nat.testBit (maskOf M es) j = true → ∃ e ∈ es, Region.binds .any e = true ∧ (e.on = j ∨ Nat.testBit (M.getD e.on 0) j = true) := by
  intro es
  induction es with
  | nil => intro h; simp [maskOf] at h
  | cons e es ih =>
    intro h
    simp only [maskOf] at h
    split at h
    · rename_i hb
      rw [testBit_lor, testBit_lor, testBit_pow] at h
      simp only [Bool.or_eq_true, decide_eq_true_eq] at h
      rcases h with h | h | h
      · obtain ⟨e', h1, h2⟩ := ih h; exact ⟨e', List.mem_cons_of_mem _ h1, h2⟩
      · exact ⟨e, List.mem_cons_self, hb, .inl h⟩
      · exact ⟨e, List.mem_cons_self, hb, .inr h⟩
    · obtain ⟨e', h1, h2⟩ := ih h; exact ⟨e', List.mem_cons_of_mem _ h1, h2⟩
theorem binds_any {md : Region.Mode} {e : Edge} (h : Region.binds .any e = true) : Region.binds md e = true := by
  unfold Region.binds at *
  split at h <;> first | rfl | (simp at h)
theorem binds_text {e : Edge} (h : Region.binds .any e = true) : Region.binds .text e = true := binds_any h
theorem allPairs_spec {l : List Nat} {p : Nat → Nat → Bool} (h : allPairs l p = true) {i j : Nat} (hi : i ∈ l) (hj : j ∈ l) : p i j = true := by
  have h1 := List.all_eq_true.1 h i hi
  exact List.all_eq_true.1 h1 j hj
theorem has_mem {l : List Nat} {t : Nat} : has l t = true ↔ t ∈ l := by
  induction l with
  | nil => exact ⟨(fun h => Bool.noConfusion (show false = true from h)), (fun h => absurd h (by simp))⟩
  | cons x l ih =>
    rw [has_cons, Bool.or_eq_true, ih, List.mem_cons]
    constructor
    · rintro (h | h)
      · exact .inl (Trie.beq_true h).symm
      · exact .inr h
    · rintro (h | h)
      · exact .inl (by subst h; exact Nat.beq_refl _)
      · exact .inr h
theorem okTmpL_spec {M : List Nat} {i : Nat} {looks : List Nat} : ∀ (l : List Oper) (k : Nat), okTmpL M i looks l k = true → ∀ (j : Nat) p t, l[j]? = some p → p.dst = some t → t ∈ looks → i ≠ k + j → bef M i (k + j) = true ∨ bef M (k + j) i = true := by
  intro l
  induction l with
  | nil => intro k _ j p t h; simp at h
  | cons p l ih =>
    intro k h j q t hj hd ht hne
    have h' : bAnd (okT1 M i k looks p.dst) (okTmpL M i looks l (Nat.succ k)) = true := h
    rw [bAnd_eq, Bool.and_eq_true] at h'
    cases j with
    | zero =>
      simp only [List.getElem?_cons_zero] at hj
      injection hj with hj; subst hj
      have h1 := h'.1
      rw [hd] at h1
      have h2 : @Bool.rec (fun _ => Bool) true (bOr (Nat.beq i k) (bOr (bef M i k) (bef M k i))) (has looks t) = true := h1
      rw [has_mem.2 ht] at h2
      have h3 : bOr (Nat.beq i k) (bOr (bef M i k) (bef M k i)) = true := h2
      rw [bOr_eq, bOr_eq] at h3
      simp only [Bool.or_eq_true] at h3
      rcases h3 with h3 | h3
      · exact absurd (Trie.beq_true h3) hne
      · exact h3
    | succ j =>
      simp only [List.getElem?_cons_succ] at hj
      have := ih (Nat.succ k) h'.2 j q t hj hd ht (by rw [show Nat.succ k + j = k + (j + 1) from by omega]; exact hne)
      rwa [show Nat.succ k + j = k + (j + 1) from by omega] at this
theorem okTmps_spec {ops : Array Oper} {M : List Nat} : ∀ (l : List Oper) (k : Nat), okTmps ops M l k = true → ∀ (i : Nat) o, l[i]? = some o → okTmpL M (k + i) (looksD ops o) ops.toList 0 = true := by
  intro l
  induction l with
  | nil => intro k _ i o h; simp at h
  | cons p l ih =>
    intro k h i o hi
    have h' : bAnd (okTmpL M k (looksD ops p) ops.toList 0) (okTmps ops M l (Nat.succ k)) = true := h
    rw [bAnd_eq, Bool.and_eq_true] at h'
    cases i with
    | zero => simp only [List.getElem?_cons_zero] at hi; injection hi with hi; subst hi; exact h'.1
    | succ i =>
      simp only [List.getElem?_cons_succ] at hi
      have := ih (Nat.succ k) h'.2 i o hi
      rwa [show Nat.succ k + i = k + (i + 1) from by omega] at this

/-- what a region's static checks say -/
structure Stat8 (ops : Array Oper) (M : List Nat) : Prop where
  mask : ∀ i o, ops.toList[i]? = some o → (∀ j, bef M j i = true → ∃ e ∈ o.after.toList, Region.binds .any e = true ∧ (e.on = j ∨ bef M j e.on = true)) ∧ ∀ e ∈ o.after.toList, Region.binds .any e = true → e.on < i
  tmp : ∀ (i j : Nat) o p t, ops.toList[i]? = some o → ops.toList[j]? = some p → i ≠ j → p.dst = some t → t ∈ looksD ops o → bef M i j = true ∨ bef M j i = true
  ord : ∀ md, ∃ o, okOrd md ops.toList o 0 = true
theorem isHv_lt {l : List Oper} {x : Nat} (hx : isHv l x = true) : x < l.length := by
  unfold isHv at hx
  split at hx
  · rename_i o ho; exact (List.getElem?_eq_some_iff.1 ho).1
  · cases hx
theorem okOrd_weak {l : List Oper} : ∀ (o : List Nat) (done : Nat), okOrd .text l o done = true → okOrd .any l o done = true := by
  intro o
  induction o with
  | nil => intro d h; exact h
  | cons i r ih =>
    intro d h
    simp only [okOrd] at h ⊢
    split at h
    · cases h
    · rename_i op ho
      simp only [Bool.and_eq_true] at h ⊢
      refine ⟨List.all_eq_true.2 fun e he => ?_, ih _ h.2⟩
      have := List.all_eq_true.1 h.1 e he
      cases hb : Region.binds .any e with
      | false => rfl
      | true => rw [binds_text hb] at this; exact this
theorem static_spec {ops : Array Oper} {M : List Nat} (h : static ops M = true) : Stat8 ops M := by
  unfold static at h
  simp only [Bool.and_eq_true] at h
  obtain ⟨⟨⟨h1, h2⟩, h5⟩, h6⟩ := h
  refine ⟨fun i o ho => ?_, fun i j o p t ho hp hij hd ht => ?_, fun md => ?_⟩
  · have hi : i < ops.toList.length := (List.getElem?_eq_some_iff.1 ho).1
    have hk := List.all_eq_true.1 h1 i (List.mem_range.2 hi)
    simp only [okMask, ho, Bool.and_eq_true] at hk
    obtain ⟨k1, k2⟩ := hk
    have k1 := Trie.beq_true k1
    refine ⟨fun j hj => ?_, fun e he hb => ?_⟩
    · rw [bef_eq, k1] at hj
      obtain ⟨e, he, hb, hh⟩ := maskOf_bit hj
      exact ⟨e, he, hb, hh.imp id fun h => by rw [bef_eq]; exact h⟩
    · have := List.all_eq_true.1 k2 e he
      simp only [hb, Bool.not_true, Bool.false_or] at this
      exact ble_true this
  · have hk := okTmps_spec _ _ h2 i o ho
    rw [Nat.zero_add] at hk
    have := okTmpL_spec _ _ hk j p t hp hd ht (by rw [Nat.zero_add]; exact hij)
    rwa [Nat.zero_add] at this
  · cases md with
    | any => exact ⟨_, okOrd_weak _ _ h5⟩
    | text => exact ⟨_, h5⟩
    | gc =>
      simp only [Bool.or_eq_true] at h6
      rcases h6 with h6 | h6
      · exact ⟨_, h6⟩
      · exact ⟨_, h6⟩
theorem bef_lt {ops : Array Oper} {M : List Nat} (st : Stat8 ops M) : ∀ (i j : Nat) o, ops.toList[i]? = some o → bef M j i = true → j < i := by
  intro i
  induction i using Nat.strongRecOn with
  | ind i ih =>
    intro j o ho hb
    obtain ⟨e, he, hbd, h | h⟩ := (st.mask i o ho).1 j hb
    · have := (st.mask i o ho).2 e he hbd; omega
    · have h1 := (st.mask i o ho).2 e he hbd
      have hi : i < ops.toList.length := (List.getElem?_eq_some_iff.1 ho).1
      have := ih e.on h1 j (ops.toList[e.on]'(by omega)) (List.getElem?_eq_getElem (by omega)) h
      omega

/-- an order in which each edge is kept: while anything is left, something is ready -/
theorem okOrd_ready {md : Region.Mode} {ops : Array Oper} {listed : Array Bool} (hsz : listed.size = ops.size) : ∀ (ord : List Nat) (done : Nat), okOrd md ops.toList ord done = true →
    (∀ i, Nat.testBit done i = true → listed.getD i true = true ∧ listed.getD i false = true) → Region.ready md ops listed = [] → ∀ i, i < ops.size → listed.getD i true = true ∧ listed.getD i false = true := by
  intro ord
  induction ord with
  | nil =>
    intro done h hd _ i hi
    have := List.all_eq_true.1 h i (List.mem_range.2 (by simpa using hi))
    exact hd i this
  | cons k r ih =>
    intro done h hd hr i hi
    simp only [okOrd] at h
    split at h
    · cases h
    · rename_i o ho
      simp only [Bool.and_eq_true] at h
      obtain ⟨h1, h2⟩ := h
      refine ih _ h2 (fun j hj => ?_) hr i hi
      rw [testBit_lor, testBit_pow] at hj
      simp only [Bool.or_eq_true, decide_eq_true_eq] at hj
      rcases hj with hj | hj
      · exact hd j hj
      · subst hj
        have ho' : ops[k]? = some o := by simpa using ho
        have hn : ¬ (k ∈ Region.ready md ops listed) := by rw [hr]; simp
        rw [mem_ready] at hn
        have hk : listed.getD k true = true := by
          cases hl : listed.getD k true with
          | true => rfl
          | false =>
            refine absurd ⟨hl, o, ho', fun e he hb => ?_⟩ hn
            have := List.all_eq_true.1 h1 e (by simpa using he)
            simp only [hb, Bool.not_true, Bool.false_or] at this
            exact (hd _ this).2
        refine ⟨hk, ?_⟩
        cases hl : listed[k]? with
        | none =>
          exfalso
          have h5 := (Array.getElem?_eq_some_iff.1 ho').1
          rw [Array.getElem?_eq_none_iff] at hl
          omega
        | some b => simp [hl] at hk ⊢; exact hk

end
end Go.Ev
