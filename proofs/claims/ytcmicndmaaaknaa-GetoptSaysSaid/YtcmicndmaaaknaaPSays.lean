/- Plain laws without Go: the reference's Usage comes to what getopt.Usage comes to; the law GetoptSays, plain. -/
import Derived.Test.YtcmicndmaaaknaaPSpec
import Derived.Test.YtcmicndmaaaknaaPAsks
import Derived.Test.YtcmicndmaaaknaaHUsage0
import Derived.Test.YtcmicndmaaaknaaG25
namespace Go.Proofs.Ytcmicndmaaaknaa.G
open Go.RowKit Go.Proofs.YtcmicndmaaaknaaW.PrintWords
set_option linter.unusedVariables false
set_option linter.unusedSimpArgs false

theorem one_ofS (b : UInt8) : tinselref09_one.f (b.toNat : Int) = some (oneB b) := by
  unfold tinselref09_one.f strOfNums oneB mkB
  simp

/-- the reference's own way: the letter's next byte says whether it takes an argument -/
def uref : List UInt8 → List UInt8 → List (List UInt8) → List UInt8 × List (List UInt8)
  | [], p, l => (p, l)
  | b :: r, p, l => if b.toNat = 58 then uref r p l else if head58 r = true then uref r p (l ++ [[91, 45, b, 32, 97, 114, 103, 93]]) else uref r (p ++ [b]) l

theorem uref_eq : ∀ (r ls ts : List UInt8) (last : Bool) {ls' ts' : List UInt8}, scan r ls ts last = some (ls', ts') → (∀ x ∈ ts, x ∈ ls) →
    ∃ rest, ls' = ls ++ rest ∧ ∀ p l, uparts ts' rest p l = uref r p l := by
  intro r
  induction r with
  | nil =>
    intro ls ts last ls' ts' h _
    simp only [scan] at h
    injection h with h
    injection h with h1 h2
    subst h1
    exact ⟨[], by simp, fun p l => rfl⟩
  | cons b r ih =>
    intro ls ts last ls' ts' h hsub
    have h0 := h
    unfold scan at h
    by_cases h1 : b.toNat = 58 ∧ last = true
    · rw [if_pos h1] at h
      obtain ⟨rest, e1, e2⟩ := ih _ _ _ h (fun x hx => by
        rcases List.mem_append.1 hx with hx | hx
        · exact hsub x hx
        · exact List.mem_of_mem_drop hx)
      refine ⟨rest, e1, fun p l => ?_⟩
      rw [e2, uref, if_pos h1.1]
    · rw [if_neg h1] at h
      by_cases h2 : isLet b = true ∧ ls.contains b = false
      · rw [if_pos h2] at h
        have hb := isLet_58 h2.1
        obtain ⟨rest, e1, e2⟩ := ih _ _ _ h (fun x hx => List.mem_append_left _ (hsub x hx))
        have hin : (ls ++ [b]).contains b = true := by rw [List.contains_iff_mem]; simp
        have htk := scan_once r _ _ _ b hb h hin
        obtain ⟨_, e4⟩ := scan_takes r _ _ _ b hb h
        have hnt : ts.contains b = false := by
          cases hc : ts.contains b with
          | false => rfl
          | true =>
            have := hsub b (List.contains_iff_mem.1 hc)
            rw [List.contains_iff_mem.2 this] at h2
            exact absurd h2.2 (by decide)
        have hdrop : ((ls ++ [b]).drop ((ls ++ [b]).length - 1)).contains b = true := by
          rw [List.length_append, List.length_singleton, Nat.add_sub_cancel, List.drop_left]
          simp
        rw [htk, hnt, hdrop] at e4
        simp only [Bool.false_or, Bool.true_and, Bool.and_true] at e4
        refine ⟨b :: rest, by rw [e1, List.append_assoc]; rfl, fun p l => ?_⟩
        rw [uref, if_neg hb, uparts, e4, e2, e2]
      · rw [if_neg h2] at h; cases h

def wt (l : List (List UInt8)) : List UInt8 := (l.map (32 :: ·)).flatten
theorem wt_add1 (l : List (List UInt8)) (x : List UInt8) : wt (l ++ [x]) = wt l ++ (32 :: x) := by simp [wt]
theorem wt_len (l : List (List UInt8)) : (wt l).length = jw l := by
  induction l with
  | nil => rfl
  | cons x r ih =>
    have : wt (x :: r) = (32 :: x) ++ wt r := by simp [wt]
    rw [this, List.length_append, ih, jw_cons, List.length_cons]
theorem joinSp_cons (x : List UInt8) (l : List (List UInt8)) : joinSp (x :: l) = x ++ wt l := by
  induction l generalizing x with
  | nil => simp [joinSp, wt]
  | cons y r ih => rw [joinSp, ih]; simp [wt]
theorem joinSp_drop (l : List (List UInt8)) : joinSp l = (wt l).drop 1 := by
  cases l with
  | nil => rfl
  | cons x r => rw [joinSp_cons]; simp [wt]

def uend (q : List UInt8 × List (List UInt8)) : ByteArray × Int := (mkB (joinSp (if q.1.isEmpty then q.2 else ([91, 45] ++ q.1 ++ [93]) :: q.2)), 0)
theorem toL (l : List UInt8) : (mkB l).toList = l := by rw [ByteArray.toList_eq, mkB_data]

theorem ref_uloop (L : List UInt8) (hL : L.length ≤ 140737488355328) (d : Nat) : ∀ (i : Nat) (P : List UInt8) (l : List (List UInt8)), i + d = L.length → P.length ≤ i → jw l ≤ 9 * i →
    Ev (fun k => tinselref09_Usage.l0 k (mkB P) (mkB (wt l)) (mkB L) i) (uend (uref (L.drop i) P l)) := by
  have hz := mkB_size L
  induction d with
  | zero =>
    intro i P l hd hP hl
    have hPz := mkB_size P
    have hWz := mkB_size (wt l)
    have hwl := wt_len l
    rw [List.drop_eq_nil_of_le (by omega), uref]
    refine Ev.step (f := fun _ => some (uend (P, l))) (fun k => ?_) (Ev.now _)
    simp only [tinselref09_Usage.l0]
    rw [if_neg (by omega), toL, toL]
    unfold uend
    by_cases hp : P = []
    · subst hp
      rw [if_pos rfl]
      simp only [List.isEmpty_nil, if_true]
      rw [joinSp_drop]
      by_cases hw : wt l = []
      · rw [if_pos hw, hw]; rfl
      · rw [if_neg hw]
        have : 0 < (wt l).length := List.length_pos_iff.2 hw
        rw [if_pos (by omega), mkB_drop]
    · have hpe : P.isEmpty = false := by
        cases P with
        | nil => exact absurd rfl hp
        | cons => rfl
      rw [if_neg hp]
      simp only [hpe]
      rw [if_pos (by omega), if_pos (by rw [ByteArray.size_append]; have : (⟨#[91, 45]⟩ : ByteArray).size = 2 := rfl; omega), if_pos (by rw [ByteArray.size_append, ByteArray.size_append]; have : (⟨#[91, 45]⟩ : ByteArray).size = 2 := rfl; have : (⟨#[93]⟩ : ByteArray).size = 1 := rfl; omega)]
      rw [if_neg (by decide), joinSp_cons, ← mkB_append, ← mkB_append, ← mkB_append]
      rfl
  | succ d ih =>
    intro i P l hd hP hl
    have hi : i < L.length := by omega
    have hbt := bt_mkB L i hi
    have hwl := wt_len l
    have hWz := mkB_size (wt l)
    have hPz := mkB_size P
    rw [List.drop_eq_getElem_cons hi]
    obtain ⟨b, hb⟩ : ∃ b, b = L[i]'hi := ⟨_, rfl⟩
    rw [← hb] at hbt ⊢
    have hozs : (oneB b).size = 1 := mkB_size [b]
    rw [uref]
    by_cases hc : b.toNat = 58
    · rw [if_pos hc]
      refine Ev.step (fun k => ?_) (ih (i + 1) P l (by omega) (by omega) (by omega))
      simp only [tinselref09_Usage.l0]
      rw [if_pos (by omega), if_pos (by omega), hbt, if_pos (by omega), wr64 (by omega) (by omega)]
      rfl
    · rw [if_neg hc]
      by_cases hh : head58 (L.drop (i + 1)) = true
      · rw [if_pos hh]
        have hn : i + 1 < L.length := by
          by_cases e : i + 1 < L.length
          · exact e
          · rw [List.drop_eq_nil_of_le (by omega)] at hh; cases hh
        have hbn := bt_mkB L (i + 1) hn
        have h58 : (bt (mkB L) ((i : Int) + 1) == 58) = true := by
          rw [List.drop_eq_getElem_cons hn] at hh
          simp only [head58, beq_iff_eq] at hh
          rw [show ((i : Int) + 1) = ((i + 1 : Nat) : Int) from by omega, hbn, beq_iff_eq]
          omega
        have hx : mkB (wt l) ++ (((⟨#[32, 91, 45]⟩ : ByteArray) ++ oneB b) ++ (⟨#[32, 97, 114, 103, 93]⟩ : ByteArray)) = mkB (wt (l ++ [[91, 45, b, 32, 97, 114, 103, 93]])) := by
          rw [wt_add1, ← mkB_append]; rfl
        refine Ev.step (f := fun k => tinselref09_Usage.j1 k (mkB P) (mkB (wt l)) (mkB L) i true) (fun k => ?_) (Ev.step (fun k => ?_) (ih (i + 1) P (l ++ [[91, 45, b, 32, 97, 114, 103, 93]]) (by omega) (by omega) (by rw [jw_add, jw_cons]; simp only [List.length_cons, List.length_nil, jw, List.map_nil, List.sum_nil] at hl ⊢; omega)))
        · simp only [tinselref09_Usage.l0]
          rw [if_pos (by omega), if_pos (by omega), hbt, if_neg (by omega), wr64 (by omega) (by omega), if_pos (by omega), if_pos (by omega), h58]
        · simp only [tinselref09_Usage.j1, if_true]
          rw [if_pos (by omega), if_pos (by omega), hbt, one_ofS]
          simp only [Option.bind_some]
          have s3 : (⟨#[32, 91, 45]⟩ : ByteArray).size = 3 := rfl
          have s5 : (⟨#[32, 97, 114, 103, 93]⟩ : ByteArray).size = 5 := rfl
          rw [if_pos (by omega), if_pos (by rw [ByteArray.size_append]; omega), if_pos (by rw [ByteArray.size_append, ByteArray.size_append]; omega), hx, wr64 (by omega) (by omega)]
          rfl
      · rw [if_neg hh]
        have hx : mkB P ++ oneB b = mkB (P ++ [b]) := mkB_append _ _
        refine Ev.step (f := fun k => tinselref09_Usage.j1 k (mkB P) (mkB (wt l)) (mkB L) i false) (fun k => ?_) (Ev.step (fun k => ?_) (ih (i + 1) (P ++ [b]) l (by omega) (by rw [List.length_append, List.length_singleton]; omega) (by omega)))
        · simp only [tinselref09_Usage.l0]
          rw [if_pos (by omega), if_pos (by omega), hbt, if_neg (by omega), wr64 (by omega) (by omega)]
          by_cases hn : i + 1 < L.length
          · have hbn := bt_mkB L (i + 1) hn
            have h58 : (bt (mkB L) ((i : Int) + 1) == 58) = false := by
              rw [List.drop_eq_getElem_cons hn] at hh
              simp only [head58, beq_iff_eq] at hh
              rw [show ((i : Int) + 1) = ((i + 1 : Nat) : Int) from by omega, hbn, beq_eq_false_iff_ne]
              omega
            rw [if_pos (by omega), if_pos (by omega), h58]
          · rw [if_neg (by omega)]
        · simp only [tinselref09_Usage.j1]
          rw [if_neg (by decide), if_pos (by omega), if_pos (by omega), hbt, one_ofS]
          simp only [Option.bind_some]
          rw [if_pos (by omega), hx, wr64 (by omega) (by omega)]
          rfl

theorem usage_pure (a0 : ByteArray) (ha : a0.size ≤ 140737488355328) : ∃ r, getopt_Usage.f a0 = some r ∧ Ev (fun k => tinselref09_Usage.f k a0) r := by
  have hsp := spec_pure a0 ha
  unfold getopt_Usage.f tinselref09_Usage.f
  rw [if_pos ha]
  cases hs : specOf a0 with
  | none =>
    rw [hs] at hsp
    exact ⟨_, rfl, Ev.bind hsp (Ev.now _)⟩
  | some p =>
    obtain ⟨fi, ls, ts⟩ := p
    rw [hs] at hsp
    refine ⟨_, rfl, Ev.bind hsp ?_⟩
    refine Ev.congr (fun k => if_pos rfl) ?_
    rw [bare_eq]
    simp only [Option.bind_some]
    obtain ⟨_, hsc⟩ := spec_parts hs
    obtain ⟨rest, e1, e2⟩ := uref_eq _ _ _ _ hsc (by simp)
    rw [List.nil_append] at e1
    subst e1
    have h1 := strip_le a0.data.toList
    rw [data_length] at h1
    have := ref_uloop (strip a0.data.toList) (by omega) (strip a0.data.toList).length 0 [] [] (by omega) (by simp) (by simp [jw])
    rw [List.drop_zero, ← e2] at this
    exact this

theorem says_some (a1 a2 : ByteArray) (m : Bool) (h1 : a1.size ≤ 140737488355328) (h2 : a2.size ≤ 140737488355328) : ∃ r, getopt_Says.f a1 a2 m = some r ∧ tinselref09_Says.f a1 a2 m = some r := by
  have he : tinselref09_Says.f a1 a2 m = getopt_Says.f a1 a2 m := rfl
  rw [he]
  have s34 : (⟨#[58, 32, 111, 112, 116, 105, 111, 110, 32, 114, 101, 113, 117, 105, 114, 101, 115, 32, 97, 110, 32, 97, 114, 103, 117, 109, 101, 110, 116, 32, 45, 45, 32, 39]⟩ : ByteArray).size = 34 := rfl
  have s21 : (⟨#[58, 32, 105, 110, 118, 97, 108, 105, 100, 32, 111, 112, 116, 105, 111, 110, 32, 45, 45, 32, 39]⟩ : ByteArray).size = 21 := rfl
  unfold getopt_Says.f
  cases m with
  | true =>
    rw [if_pos rfl, if_pos (by omega), if_pos (by rw [ByteArray.size_append]; omega), if_pos (by rw [ByteArray.size_append, ByteArray.size_append]; omega)]
    exact ⟨_, rfl, rfl⟩
  | false =>
    rw [if_neg (by decide), if_pos (by omega), if_pos (by rw [ByteArray.size_append]; omega), if_pos (by rw [ByteArray.size_append, ByteArray.size_append]; omega)]
    exact ⟨_, rfl, rfl⟩

/-- THE LAW GetoptSays, PLAIN. -/
theorem says_pure (a0 a1 a2 : ByteArray) (m : Bool) (h0 : a0.size ≤ 140737488355328) (h1 : a1.size ≤ 140737488355328) (h2 : a2.size ≤ 140737488355328) : Ev (fun k => tinsellaw09_GetoptSays.f k a0 a1 a2 m) true := by
  obtain ⟨r, hr, href⟩ := usage_pure a0 h0
  obtain ⟨s, hs, hs2⟩ := says_some a1 a2 m h1 h2
  unfold tinsellaw09_GetoptSays.f
  simp only [hr, Option.bind_some, hs, hs2]
  refine Ev.bind href ?_
  refine Ev.congr (fun k => if_pos rfl) ?_
  refine Ev.congr (fun k => if_pos rfl) ?_
  refine Ev.congr (fun k => if_pos trivial) ?_
  exact Ev.bind lives_true (Ev.now _)
end Go.Proofs.Ytcmicndmaaaknaa.G
