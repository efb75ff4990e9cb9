/- Plain laws without Go: the reference's Spec and takes say of a spec what its scan says. -/
import Derived.Test.YtcmicndmaaaknaaG5
import Derived.Test.YtcmicndmaaaknaaG6
import Derived.Test.YtcmicndmaaaknaaHBytes
namespace Go.Proofs.Ytcmicndmaaaknaa.G
open Go.RowKit Go.Proofs.YtcmicndmaaaknaaW.PrintWords
set_option linter.unusedVariables false
set_option linter.unusedSimpArgs false

theorem wr64 {i : Int} (h0 : -9223372036854775808 ≤ i) (h1 : i < 9223372036854775808) : wrap64 i = i := by unfold wrap64; omega

theorem bt_mkB (L : List UInt8) (i : Nat) (h : i < L.length) : bt (mkB L) i = ((L[i]'h).toNat : Int) := by
  rw [bt_data, mkB_data, List.getElem?_eq_getElem h]
  rfl
theorem toNat_eq {b c : UInt8} : ((b.toNat : Int) = (c.toNat : Int)) ↔ b = c := by
  constructor
  · intro h; exact UInt8.toNat_inj.1 (by omega)
  · intro h; rw [h]

theorem bare_eq (s : ByteArray) : tinselref09_bare.f s = some (mkB (strip s.data.toList)) := by
  unfold tinselref09_bare.f
  have hl := data_length s
  have hb := bt_data s 0
  have e : ((0 : Nat) : Int) = 0 := rfl
  rw [e] at hb
  cases hd : s.data.toList with
  | nil =>
    rw [hd] at hl
    rw [if_neg (by simp at hl; omega)]
    congr 1
    exact eq_mkB (by rw [hd]; rfl)
  | cons b r =>
    rw [hd] at hl hb
    simp at hb
    rw [if_pos (by simp at hl; omega), if_pos (by simp at hl; omega), hb]
    by_cases h : (b.toNat : Int) = 43
    · rw [if_pos h, if_pos (by simp at hl; omega)]
      have hp : plus (b :: r) = true := by simp [plus]; omega
      unfold strip
      rw [if_pos hp]
      congr 1
      rw [← mkB_toList s, hd, mkB_drop]
    · rw [if_neg h]
      have hp : ¬ plus (b :: r) = true := by simp [plus]; omega
      unfold strip
      rw [if_neg hp]
      congr 1
      exact eq_mkB hd

theorem letter_eq (b : UInt8) : tinselref09_letter.f (b.toNat : Int) = some (isLet b) := by
  unfold tinselref09_letter.f isLet
  generalize b.toNat = n
  split <;> split <;> (try split) <;> (try split) <;> (try split)
  all_goals
    congr 1
    rw [Bool.eq_iff_iff]
    simp only [Bool.or_eq_true, Bool.and_eq_true, decide_eq_true_eq, Bool.false_eq_true, true_iff, false_iff]
    omega

/-! ### Spec -/
theorem spec_dup (L : List UInt8) (hL : L.length ≤ 9223372036854775807) (i : Nat) (hi : i < L.length) (d : Nat) : ∀ j : Nat, j + d = i →
    ((∃ k, ∃ hk : k < L.length, j ≤ k ∧ k < i ∧ L[k]'hk = L[i]'hi) → Ev (fun k => tinselref09_Spec.l1 k (mkB L) i j) false) ∧
    ((∀ k, (hk : k < L.length) → j ≤ k → k < i → ¬ L[k]'hk = L[i]'hi) → ∀ r, Ev (fun k => tinselref09_Spec.l0 k (mkB L) (i + 1)) r → Ev (fun k => tinselref09_Spec.l1 k (mkB L) i j) r) := by
  have hz := mkB_size L
  induction d with
  | zero =>
    intro j hd
    refine ⟨fun ⟨k, _, h1, h2, _⟩ => by omega, fun _ r hr => Ev.step (fun k => ?_) hr⟩
    simp only [tinselref09_Spec.l1]
    rw [if_neg (by omega), wr64 (by omega) (by omega)]
  | succ d ih =>
    intro j hd
    obtain ⟨i1, i2⟩ := ih (j + 1) (by omega)
    have hj : j < L.length := by omega
    by_cases h : L[j]'hj = L[i]'hi
    · refine ⟨fun _ => Ev.step (f := fun _ => some false) (fun k => ?_) (Ev.now _), fun hn => absurd h (hn j hj (Nat.le_refl _) (by omega))⟩
      simp only [tinselref09_Spec.l1]
      rw [if_pos (by omega), if_pos (by omega), if_pos (by omega), if_pos (by omega), if_pos (by omega), bt_mkB L j hj, bt_mkB L i hi, if_pos (toNat_eq.2 h)]
    · have hstep : ∀ k, tinselref09_Spec.l1 (k + 1) (mkB L) i j = tinselref09_Spec.l1 k (mkB L) i ((j + 1 : Nat) : Int) := fun k => by
        simp only [tinselref09_Spec.l1]
        rw [if_pos (by omega), if_pos (by omega), if_pos (by omega), if_pos (by omega), if_pos (by omega), bt_mkB L j hj, bt_mkB L i hi, if_neg (fun e => h (toNat_eq.1 e)), wr64 (by omega) (by omega)]
        rfl
      constructor
      · rintro ⟨k, hk, h1, h2, he⟩
        refine Ev.step hstep (i1 ⟨k, hk, ?_, h2, he⟩)
        by_cases e : k = j
        · subst e; exact absurd he h
        · omega
      · intro hn r hr
        exact Ev.step hstep (i2 (fun k hk h1 h2 => hn k hk (by omega) h2) r hr)

theorem spec_loop (L : List UInt8) (hL : L.length ≤ 9223372036854775807) (d : Nat) : ∀ (i : Nat) (ls ts : List UInt8) (last : Bool), i + d = L.length →
    (last = true ↔ ∃ h : i - 1 < L.length, 0 < i ∧ ¬ (L[i - 1]'h).toNat = 58) →
    (∀ b : UInt8, b.toNat ≠ 58 → (ls.contains b = true ↔ ∃ k, ∃ hk : k < L.length, k < i ∧ L[k]'hk = b)) →
    Ev (fun k => tinselref09_Spec.l0 k (mkB L) i) (scan (L.drop i) ls ts last).isSome := by
  have hz := mkB_size L
  induction d with
  | zero =>
    intro i ls ts last hd h1 h2
    rw [List.drop_eq_nil_of_le (by omega)]
    refine Ev.step (f := fun _ => some true) (fun k => ?_) (Ev.now _)
    simp only [tinselref09_Spec.l0]
    rw [if_neg (by omega)]
  | succ d ih =>
    intro i ls ts last hd h1 h2
    have hi : i < L.length := by omega
    rw [List.drop_eq_getElem_cons hi]
    obtain ⟨b, hb⟩ : ∃ b, b = L[i]'hi := ⟨_, rfl⟩
    rw [← hb]
    unfold scan
    have hbt := bt_mkB L i hi
    rw [← hb] at hbt
    by_cases hc : b.toNat = 58
    · by_cases hlast : last = true
      · rw [if_pos ⟨hc, hlast⟩]
        obtain ⟨hp, hpos, hne⟩ := h1.1 hlast
        have hbp := bt_mkB L (i - 1) hp
        refine Ev.step (fun k => ?_) (ih (i + 1) ls (ts ++ ls.drop (ls.length - 1)) false (by omega) ⟨fun h => (by cases h), fun ⟨h, _, hn⟩ => ?_⟩ ?_)
        · simp only [tinselref09_Spec.l0]
          rw [if_pos (by omega), if_pos (by omega), hbt, if_pos (by omega), if_neg (by omega), wr64 (by omega) (by omega), if_pos (by omega), if_pos (by omega), show ((i : Int) - 1) = ((i - 1 : Nat) : Int) from by omega, hbp, if_neg (by omega), wr64 (by omega) (by omega)]
          rfl
        · exfalso
          apply hn
          simp only [Nat.add_sub_cancel]
          rw [← hb]; exact hc
        · intro c hcn
          rw [h2 c hcn]
          constructor
          · rintro ⟨k, hk, hlt, he⟩; exact ⟨k, hk, by omega, he⟩
          · rintro ⟨k, hk, hlt, he⟩
            refine ⟨k, hk, ?_, he⟩
            by_cases e : k = i
            · subst e; rw [← hb] at he; rw [he] at hc; exact absurd hc hcn
            · omega
      · rw [if_neg (fun e => hlast e.2), if_neg (fun e => isLet_58 e.1 hc)]
        refine Ev.step (f := fun _ => some false) (fun k => ?_) (Ev.now _)
        simp only [tinselref09_Spec.l0]
        rw [if_pos (by omega), if_pos (by omega), hbt, if_pos (by omega)]
        by_cases h0 : i = 0
        · rw [if_pos (by omega)]
        · have hp : i - 1 < L.length := by omega
          have hbp := bt_mkB L (i - 1) hp
          have h58 : (L[i - 1]'hp).toNat = 58 := by
            by_cases e : (L[i - 1]'hp).toNat = 58
            · exact e
            · exact absurd (h1.2 ⟨hp, by omega, e⟩) hlast
          rw [if_neg (by omega), wr64 (by omega) (by omega), if_pos (by omega), if_pos (by omega), show ((i : Int) - 1) = ((i - 1 : Nat) : Int) from by omega, hbp, if_pos (by omega)]
    · rw [if_neg (fun e => hc e.1)]
      by_cases hl : isLet b = true
      · obtain ⟨d1, d2⟩ := spec_dup L hL i hi i 0 (by omega)
        have hstep : ∀ k, tinselref09_Spec.l0 (k + 1) (mkB L) i = tinselref09_Spec.l1 k (mkB L) i ((0 : Nat) : Int) := fun k => by
          simp only [tinselref09_Spec.l0]
          rw [if_pos (by omega), if_pos (by omega), hbt, if_neg (by omega), letter_eq]
          simp only [Option.bind_some]
          rw [if_pos hl]
          rfl
        by_cases hcon : ls.contains b = false
        · rw [if_pos ⟨hl, hcon⟩]
          refine Ev.step hstep (d2 (fun k hk _ hlt he => ?_) _ ?_)
          · have := (h2 b hc).2 ⟨k, hk, hlt, by rw [he, hb]⟩
            rw [hcon] at this; cases this
          · refine ih (i + 1) (ls ++ [b]) ts true (by omega) ⟨fun _ => ⟨by simpa using hi, by omega, ?_⟩, fun _ => rfl⟩ ?_
            · simp only [Nat.add_sub_cancel]
              rw [← hb]; exact hc
            · intro c hcn
              rw [List.contains_iff_mem, List.mem_append, List.mem_singleton, ← List.contains_iff_mem, h2 c hcn]
              constructor
              · rintro (⟨k, hk, hlt, he⟩ | rfl)
                · exact ⟨k, hk, by omega, he⟩
                · exact ⟨i, hi, by omega, hb.symm⟩
              · rintro ⟨k, hk, hlt, he⟩
                by_cases e : k = i
                · subst e; exact .inr (by rw [hb, he])
                · exact .inl ⟨k, hk, by omega, he⟩
        · rw [if_neg (fun e => hcon e.2)]
          refine Ev.step hstep (d1 ?_)
          obtain ⟨k, hk, hlt, he⟩ := (h2 b hc).1 (by simpa using hcon)
          exact ⟨k, hk, Nat.zero_le _, hlt, by rw [he, hb]⟩
      · rw [if_neg (fun e => hl e.1)]
        refine Ev.step (f := fun _ => some false) (fun k => ?_) (Ev.now _)
        simp only [tinselref09_Spec.l0]
        rw [if_pos (by omega), if_pos (by omega), hbt, if_neg (by omega), letter_eq]
        simp only [Option.bind_some]
        rw [if_neg hl]

theorem spec_pure (s : ByteArray) (hs : s.size ≤ 140737488355328) : Ev (fun k => tinselref09_Spec.f k s) (specOf s).isSome := by
  unfold tinselref09_Spec.f
  rw [bare_eq]
  simp only [Option.bind_some]
  have h1 := strip_le s.data.toList
  rw [data_length] at h1
  have h := spec_loop (strip s.data.toList) (by omega) (strip s.data.toList).length 0 [] [] false (by omega) ⟨fun h => (by cases h), fun ⟨_, h, _⟩ => by omega⟩ (fun b _ => ⟨fun h => (by simp at h), fun ⟨k, _, h, _⟩ => by omega⟩)
  unfold specOf
  rw [Option.isSome_map]
  exact h

/-! ### takes -/
def head58 : List UInt8 → Bool
  | c :: _ => c.toNat == 58
  | [] => false
def tk : List UInt8 → UInt8 → Bool × Bool
  | [], _ => (false, false)
  | c :: r, b => if c = b ∧ b.toNat ≠ 58 then (true, head58 r) else tk r b

theorem takes_loop (L : List UInt8) (hL : L.length ≤ 9223372036854775807) (b : UInt8) (d : Nat) : ∀ i : Nat, i + d = L.length → Ev (fun k => tinselref09_takes.l0 k (mkB L) (b.toNat : Int) i) (tk (L.drop i) b) := by
  have hz := mkB_size L
  induction d with
  | zero =>
    intro i hd
    rw [List.drop_eq_nil_of_le (by omega)]
    refine Ev.step (f := fun _ => some (false, false)) (fun k => ?_) (Ev.now _)
    simp only [tinselref09_takes.l0]
    rw [if_neg (by omega)]
  | succ d ih =>
    intro i hd
    have hi : i < L.length := by omega
    rw [List.drop_eq_getElem_cons hi]
    have hbt := bt_mkB L i hi
    unfold tk
    by_cases h : L[i]'hi = b
    · by_cases hb : b.toNat = 58
      · rw [if_neg (fun e => e.2 hb)]
        refine Ev.step (fun k => ?_) (ih (i + 1) (by omega))
        simp only [tinselref09_takes.l0]
        rw [if_pos (by omega), if_pos (by omega), hbt, if_pos (toNat_eq.2 h), if_pos (by omega), wr64 (by omega) (by omega)]
        rfl
      · rw [if_pos ⟨h, hb⟩]
        by_cases hn : i + 1 < L.length
        · have hbn := bt_mkB L (i + 1) hn
          refine Ev.step (f := fun _ => some (true, head58 (L.drop (i + 1)))) (fun k => ?_) (Ev.now _)
          simp only [tinselref09_takes.l0]
          rw [if_pos (by omega), if_pos (by omega), hbt, if_pos (toNat_eq.2 h), if_neg (by omega), wr64 (by omega) (by omega), if_pos (by omega), if_pos (by omega), show ((i : Int) + 1) = ((i + 1 : Nat) : Int) from by omega, hbn, List.drop_eq_getElem_cons hn]
          simp only [head58]
          congr 2
          rw [Bool.eq_iff_iff]
          simp
          omega
        · refine Ev.step (f := fun _ => some (true, head58 (L.drop (i + 1)))) (fun k => ?_) (Ev.now _)
          rw [List.drop_eq_nil_of_le (by omega)]
          simp only [tinselref09_takes.l0]
          rw [if_pos (by omega), if_pos (by omega), hbt, if_pos (toNat_eq.2 h), if_neg (by omega), wr64 (by omega) (by omega), if_neg (by omega)]
          rfl
    · rw [if_neg (fun e => h e.1)]
      refine Ev.step (fun k => ?_) (ih (i + 1) (by omega))
      simp only [tinselref09_takes.l0]
      rw [if_pos (by omega), if_pos (by omega), hbt, if_neg (fun e => h (toNat_eq.1 e)), wr64 (by omega) (by omega)]
      rfl

theorem scan_once : ∀ (l ls ts : List UInt8) (last : Bool) {p : List UInt8 × List UInt8} (b : UInt8), b.toNat ≠ 58 → scan l ls ts last = some p → ls.contains b = true → tk l b = (false, false) := by
  intro l
  induction l with
  | nil => intros; rfl
  | cons c r ih =>
    intro ls ts last p b hb h hc
    unfold scan at h
    by_cases h1 : c.toNat = 58 ∧ last = true
    · rw [if_pos h1] at h
      unfold tk
      rw [if_neg (fun e => hb (by rw [← e.1]; exact h1.1))]
      exact ih _ _ _ b hb h hc
    · rw [if_neg h1] at h
      by_cases h2 : isLet c = true ∧ ls.contains c = false
      · rw [if_pos h2] at h
        unfold tk
        rw [if_neg (fun e => by rw [e.1, hc] at h2; exact absurd h2.2 (by decide))]
        refine ih _ _ _ b hb h ?_
        rw [List.contains_iff_mem, List.mem_append, ← List.contains_iff_mem]
        exact .inl hc
      · rw [if_neg h2] at h; cases h

theorem scan_takes : ∀ (l ls ts : List UInt8) (last : Bool) {ls' ts' : List UInt8} (b : UInt8), b.toNat ≠ 58 → scan l ls ts last = some (ls', ts') →
    ls'.contains b = (ls.contains b || (tk l b).1) ∧ ts'.contains b = (ts.contains b || (tk l b).2 || (last && head58 l && (ls.drop (ls.length - 1)).contains b)) := by
  intro l
  induction l with
  | nil =>
    intro ls ts last ls' ts' b hb h
    simp only [scan] at h
    injection h with h
    injection h with h1 h2
    subst h1 h2
    simp [tk, head58]
  | cons c r ih =>
    intro ls ts last ls' ts' b hb h
    unfold scan at h
    by_cases h1 : c.toNat = 58 ∧ last = true
    · rw [if_pos h1] at h
      obtain ⟨e1, e2⟩ := ih _ _ _ b hb h
      have ht : tk (c :: r) b = tk r b := by
        rw [tk, if_neg (fun e => hb (by rw [← e.1]; exact h1.1))]
      rw [ht]
      refine ⟨e1, ?_⟩
      rw [e2, h1.2]
      have h58 : head58 (c :: r) = true := by simp [head58, h1.1]
      rw [h58]
      have happ : (ts ++ ls.drop (ls.length - 1)).contains b = (ts.contains b || (ls.drop (ls.length - 1)).contains b) := by
        rw [Bool.eq_iff_iff]; simp
      rw [happ]
      cases ts.contains b <;> cases (ls.drop (ls.length - 1)).contains b <;> cases (tk r b).2 <;> rfl
    · rw [if_neg h1] at h
      by_cases h2 : isLet c = true ∧ ls.contains c = false
      · rw [if_pos h2] at h
        obtain ⟨e1, e2⟩ := ih _ _ _ b hb h
        have h58 : head58 (c :: r) = false := by
          have := isLet_58 h2.1
          simp [head58, this]
        have happ : (ls ++ [c]).contains b = (ls.contains b || decide (c = b)) := by
          rw [Bool.eq_iff_iff, Bool.or_eq_true, List.contains_iff_mem, List.contains_iff_mem, List.mem_append, List.mem_singleton, decide_eq_true_eq]
          exact ⟨fun h => h.imp id Eq.symm, fun h => h.imp id Eq.symm⟩
        have hdrop : ((ls ++ [c]).drop ((ls ++ [c]).length - 1)).contains b = decide (c = b) := by
          rw [List.length_append, List.length_singleton, Nat.add_sub_cancel, List.drop_left]
          rw [Bool.eq_iff_iff, List.contains_iff_mem, List.mem_singleton, decide_eq_true_eq]
          exact ⟨Eq.symm, Eq.symm⟩
        rw [h58]
        rw [happ] at e1
        rw [hdrop] at e2
        rw [e1, e2]
        by_cases hcb : c = b
        · have ht : tk (c :: r) b = (true, head58 r) := by rw [tk, if_pos ⟨hcb, hb⟩]
          have h0 := scan_once r (ls ++ [c]) ts true b hb h (by rw [happ]; simp [hcb])
          rw [ht, h0]
          simp [hcb]
        · have ht : tk (c :: r) b = tk r b := by rw [tk, if_neg (fun e => hcb e.1)]
          rw [ht]
          simp [hcb]
      · rw [if_neg h2] at h; cases h

theorem scan_letters : ∀ (l ls ts : List UInt8) (last : Bool) {ls' ts' : List UInt8}, (∀ b ∈ ls, isLet b = true) → scan l ls ts last = some (ls', ts') → ∀ b ∈ ls', isLet b = true := by
  intro l
  induction l with
  | nil =>
    intro ls ts last ls' ts' ha h
    simp only [scan] at h
    injection h with h
    injection h with h1 h2
    subst h1
    exact ha
  | cons c r ih =>
    intro ls ts last ls' ts' ha h
    unfold scan at h
    by_cases h1 : c.toNat = 58 ∧ last = true
    · rw [if_pos h1] at h; exact ih _ _ _ ha h
    · rw [if_neg h1] at h
      by_cases h2 : isLet c = true ∧ ls.contains c = false
      · rw [if_pos h2] at h
        refine ih _ _ _ (fun b hb => ?_) h
        rcases List.mem_append.1 hb with hb | hb
        · exact ha b hb
        · rw [List.mem_singleton.1 hb]; exact h2.1
      · rw [if_neg h2] at h; cases h

theorem spec_parts {s : ByteArray} {fi : Bool} {ls ts : List UInt8} (h : specOf s = some (fi, ls, ts)) : fi = plus s.data.toList ∧ scan (strip s.data.toList) [] [] false = some (ls, ts) := by
  unfold specOf at h
  obtain ⟨p, hp, he⟩ := Option.map_eq_some_iff.1 h
  obtain ⟨p1, p2⟩ := p
  injection he with e0 e
  injection e with e1 e2
  simp only at e1 e2
  subst e1 e2
  exact ⟨e0.symm, hp⟩

/-- what takes comes to: a letter, and whether it takes an argument -/
theorem takes_pure {s : ByteArray} {fi : Bool} {ls ts : List UInt8} (h : specOf s = some (fi, ls, ts)) (hs : s.size ≤ 140737488355328) (b : UInt8) :
    ∃ w, Ev (fun k => tinselref09_takes.f k s (b.toNat : Int)) (ls.contains b, w) ∧ (ls.contains b = true → w = ts.contains b) := by
  obtain ⟨_, hsc⟩ := spec_parts h
  have h1 := strip_le s.data.toList
  rw [data_length] at h1
  have hl := takes_loop (strip s.data.toList) (by omega) b (strip s.data.toList).length 0 (by omega)
  have hf : Ev (fun k => tinselref09_takes.f k s (b.toNat : Int)) (tk (strip s.data.toList) b) := by
    unfold tinselref09_takes.f
    rw [bare_eq]
    simp only [Option.bind_some]
    exact hl
  by_cases hb : b.toNat = 58
  · have hn : ls.contains b = false := by
      cases hc : ls.contains b with
      | false => rfl
      | true => exact absurd hb (isLet_58 (scan_letters _ _ _ _ (by simp) hsc b (List.contains_iff_mem.1 hc)))
    have ht : ∀ l : List UInt8, tk l b = (false, false) := by
      intro l
      induction l with
      | nil => rfl
      | cons c r ih => rw [tk, if_neg (fun e => e.2 hb)]; exact ih
    rw [ht] at hf
    rw [hn]
    exact ⟨false, hf, fun h => by cases h⟩
  · obtain ⟨e1, e2⟩ := scan_takes _ _ _ _ b hb hsc
    simp only [List.contains_nil, Bool.false_or, Bool.false_and, Bool.or_false] at e1 e2
    refine ⟨(tk (strip s.data.toList) b).2, ?_, fun _ => ?_⟩
    · have : (ls.contains b, (tk (strip s.data.toList) b).2) = tk (strip s.data.toList) b := by
        rw [e1]
      rw [this]; exact hf
    · exact e2.symm

end Go.Proofs.Ytcmicndmaaaknaa.G
