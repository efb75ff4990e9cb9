/- Plain laws without Go: two texts' lists are told alike; the document's examples live; Last, Count and Winner answer as the reference's do. -/
import Derived.Test.YtcmicndmaaaknaaG22
import Derived.Test.YtcmicndmaaaknaaHBytes
namespace Go.Proofs.Ytcmicndmaaaknaa.G
open Go.RowKit Go.Proofs.YtcmicndmaaaknaaW.PrintWords
set_option linter.unusedVariables false
set_option linter.unusedSimpArgs false

theorem w64 {i : Int} (h0 : -9223372036854775808 ≤ i) (h1 : i < 9223372036854775808) : wrap64 i = i := by unfold wrap64; omega

theorem texts_loop (l : List ByteArray) (hl : l.length ≤ 9223372036854775807) (d : Nat) : ∀ i : Int, 0 ≤ i → i + d = l.length → Ev (fun k => tinselref01_Texts.l0 k l l (l.length : Int) i) true := by
  induction d with
  | zero =>
    intro i h0 hd
    refine Ev.step (f := fun _ => some true) (fun k => ?_) (Ev.now _)
    simp only [tinselref01_Texts.l0]
    rw [if_neg (by omega)]
  | succ d ih =>
    intro i h0 hd
    refine Ev.step (fun k => ?_) (ih (i + 1) (by omega) (by omega))
    simp only [tinselref01_Texts.l0]
    rw [if_pos (by omega), if_pos h0, if_pos (by omega), if_pos (by omega), if_pos trivial, w64 (by omega) (by omega)]
theorem texts_same (l : List ByteArray) (hl : l.length ≤ 9223372036854775807) : Ev (fun k => tinselref01_Texts.f k l l) true := by
  refine Ev.congr (f := fun k => tinselref01_Texts.l0 k l l (l.length : Int) 0) (fun k => ?_) (texts_loop l hl l.length 0 (by omega) (by omega))
  unfold tinselref01_Texts.f
  rw [if_pos rfl]

theorem lives_parse1 : getopt_Parse.f (⟨#[97, 98, 58]⟩ : ByteArray) ([(⟨#[45, 97]⟩ : ByteArray), (⟨#[120]⟩ : ByteArray), (⟨#[45, 98, 99]⟩ : ByteArray), (⟨#[45, 98]⟩ : ByteArray), (⟨#[100]⟩ : ByteArray), (⟨#[45, 45]⟩ : ByteArray), (⟨#[45, 97]⟩ : ByteArray)] : List ByteArray) =
    some ([⟨⟨#[97]⟩, ⟨#[]⟩⟩, ⟨⟨#[98]⟩, ⟨#[99]⟩⟩, ⟨⟨#[98]⟩, ⟨#[100]⟩⟩], [⟨#[120]⟩, ⟨#[45, 97]⟩], ⟨#[]⟩, false, 0) := by
  kernel_rfl
theorem lives_parse2 : getopt_Parse.f (⟨#[98, 58]⟩ : ByteArray) ([(⟨#[45, 98]⟩ : ByteArray)] : List ByteArray) = some ([], [], ⟨#[98]⟩, true, 100) := by
  kernel_rfl
theorem lives_true : Ev (fun k => tinsellaw09_lives.f k) true := by
  unfold tinsellaw09_lives.f
  simp only [lives_parse1, lives_parse2, Option.bind_some]
  refine Ev.congr (f := fun k => (tinselref01_Texts.f k [⟨#[120]⟩, ⟨#[45, 97]⟩] [⟨#[120]⟩, ⟨#[45, 97]⟩]).bind fun t => if t = true then some true else some false) (fun k => ?_) (Ev.bind (texts_same _ (by decide)) (Ev.now _))
  have e : ((⟨#[98]⟩ : ByteArray).toList == [98]) = true := by rw [ByteArray.toList_eq]; rfl
  rw [if_pos trivial, if_pos (by decide), if_pos (by decide), if_pos (by rw [ByteArray.toList_eq]; rfl), if_pos (by decide), if_pos (by rw [ByteArray.toList_eq]; rfl)]
  simp only [if_true, e]

theorem last_eq : ∀ (k : Nat) (l : List S67) (a : ByteArray) (i : Int), getopt_Last.l0 k l a i = tinselref09_Last.l0 k l a i := by
  intro k
  induction k with
  | zero => intros; rfl
  | succ k ih =>
    intro l a i
    simp only [getopt_Last.l0, tinselref09_Last.l0, ih]
theorem last_ends (l : List S67) (a : ByteArray) (hl : l.length ≤ 9223372036854775807) (d : Nat) : ∀ i : Int, i + 1 = d → i < l.length → ∃ r, Ev (fun k => tinselref09_Last.l0 k l a i) r := by
  induction d with
  | zero =>
    intro i hd hi
    refine ⟨_, Ev.step (f := fun _ => some ((⟨#[]⟩ : ByteArray), false)) (fun k => ?_) (Ev.now _)⟩
    simp only [tinselref09_Last.l0]
    rw [if_neg (by omega)]
  | succ d ih =>
    intro i hd hi
    by_cases h : ((rd_T67 l i).f0).toList = a.toList
    · refine ⟨_, Ev.step (f := fun _ => some ((rd_T67 l i).f1, true)) (fun k => ?_) (Ev.now _)⟩
      simp only [tinselref09_Last.l0]
      rw [if_pos (by omega), if_pos (by omega), if_pos (by omega), if_pos h]
    · obtain ⟨r, hr⟩ := ih (i - 1) (by omega) (by omega)
      refine ⟨r, Ev.step (fun k => ?_) hr⟩
      simp only [tinselref09_Last.l0]
      rw [if_pos (by omega), if_pos (by omega), if_pos (by omega), if_neg h, w64 (by omega) (by omega)]

theorem count_eq : ∀ (k : Nat) (a : ByteArray) (x : Int) (l : List S67) (n i : Int), getopt_Count.l0 k a x l n i = tinselref09_Count.l0 k a x l n i := by
  intro k
  induction k with
  | zero => intros; rfl
  | succ k ih =>
    intro a x l n i
    simp only [getopt_Count.l0, tinselref09_Count.l0, ih]
theorem count_ends (l : List S67) (a : ByteArray) (hl : l.length ≤ 9223372036854775807) (d : Nat) : ∀ (x i : Int), 0 ≤ i → i + d = l.length → ∃ r, Ev (fun k => tinselref09_Count.l0 k a x l (l.length : Int) i) r := by
  induction d with
  | zero =>
    intro x i h0 hd
    refine ⟨_, Ev.step (f := fun _ => some x) (fun k => ?_) (Ev.now _)⟩
    simp only [tinselref09_Count.l0]
    rw [if_neg (by omega)]
  | succ d ih =>
    intro x i h0 hd
    by_cases h : ((rd_T67 l i).f0).toList = a.toList
    · obtain ⟨r, hr⟩ := ih (wrap64 (x + 1)) (i + 1) (by omega) (by omega)
      refine ⟨r, Ev.step (fun k => ?_) hr⟩
      simp only [tinselref09_Count.l0]
      rw [if_pos (by omega), if_pos (by omega), if_pos (by omega), if_pos h, w64 (i := i + 1) (by omega) (by omega)]
    · obtain ⟨r, hr⟩ := ih x (i + 1) (by omega) (by omega)
      refine ⟨r, Ev.step (fun k => ?_) hr⟩
      simp only [tinselref09_Count.l0]
      rw [if_pos (by omega), if_pos (by omega), if_pos (by omega), if_neg h, w64 (i := i + 1) (by omega) (by omega)]

/-- is a name one byte of a text? -/
theorem one_byte (x : ByteArray) (j : Nat) (hj : j < x.size) : tinselref09_one.f (bt x j) = some (mkB [x.data.toList[j]'(by rw [data_length]; exact hj)]) := by
  unfold tinselref09_one.f strOfNums
  rw [bt_data, List.getElem?_eq_getElem (by rw [data_length]; exact hj)]
  simp [mkB]

theorem winner_inner (l : List S67) (x : ByteArray) (hx : x.size ≤ 9223372036854775807) (i : Int) (h0 : 0 ≤ i) (hi : i < l.length) (d : Nat) : ∀ j : Nat, j + d = x.size →
    ((∃ j', ∃ hj : j' < x.size, j ≤ j' ∧ (rd_T67 l i).f0.data.toList = [x.data.toList[j']'(by rw [data_length]; exact hj)]) → Ev (fun k => tinselref09_Winner.l1 k l x i j) (rd_T67 l i).f0) ∧
    ((∀ j', (hj : j' < x.size) → j ≤ j' → ¬ (rd_T67 l i).f0.data.toList = [x.data.toList[j']'(by rw [data_length]; exact hj)]) → ∀ r, Ev (fun k => tinselref09_Winner.l0 k l x (wrap64 (i - 1))) r → Ev (fun k => tinselref09_Winner.l1 k l x i j) r) := by
  induction d with
  | zero =>
    intro j hd
    refine ⟨fun ⟨j', hj, hle, _⟩ => by omega, fun _ r hr => Ev.step (fun k => ?_) hr⟩
    simp only [tinselref09_Winner.l1]
    rw [if_neg (by omega)]
  | succ d ih =>
    intro j hd
    have hj : j < x.size := by omega
    obtain ⟨i1, i2⟩ := ih (j + 1) (by omega)
    by_cases h : (rd_T67 l i).f0.data.toList = [x.data.toList[j]'(by rw [data_length]; exact hj)]
    · have hb : ((rd_T67 l i).f0).toList = (mkB [x.data.toList[j]'(by rw [data_length]; exact hj)]).toList := by rw [ByteArray.toList_eq, ByteArray.toList_eq, mkB_data, h]
      refine ⟨fun _ => Ev.step (f := fun _ => some (rd_T67 l i).f0) (fun k => ?_) (Ev.now _), fun hn => absurd h (hn j hj (Nat.le_refl _))⟩
      simp only [tinselref09_Winner.l1]
      rw [if_pos (by omega), if_pos h0, if_pos hi, if_pos (by omega), one_byte x j hj]
      simp only [Option.bind_some]
      rw [if_pos hb]
    · have hb : ¬ ((rd_T67 l i).f0).toList = (mkB [x.data.toList[j]'(by rw [data_length]; exact hj)]).toList := by rw [ByteArray.toList_eq, ByteArray.toList_eq, mkB_data]; exact h
      have hstep : ∀ k, tinselref09_Winner.l1 (k + 1) l x i j = tinselref09_Winner.l1 k l x i ((j + 1 : Nat) : Int) := fun k => by
        simp only [tinselref09_Winner.l1]
        rw [if_pos (by omega), if_pos h0, if_pos hi, if_pos (by omega), one_byte x j hj]
        simp only [Option.bind_some]
        rw [if_neg hb, w64 (by omega) (by omega)]
        rfl
      constructor
      · rintro ⟨j', hj', hle, he⟩
        refine Ev.step hstep (i1 ⟨j', hj', ?_, he⟩)
        by_cases e : j' = j
        · subst e; exact absurd he h
        · omega
      · intro hn r hr
        exact Ev.step hstep (i2 (fun j' hj' hle => hn j' hj' (by omega)) r hr)

theorem winner_both (l : List S67) (x : ByteArray) (hl : l.length ≤ 9223372036854775807) (hx : x.size ≤ 9223372036854775807) (d : Nat) : ∀ i : Int, i + 1 = d → i < l.length →
    ∃ r, Ev (fun k => getopt_Winner.l0 k l x i) r ∧ Ev (fun k => tinselref09_Winner.l0 k l x i) r := by
  induction d with
  | zero =>
    intro i hd hi
    refine ⟨⟨#[]⟩, Ev.step (f := fun _ => some (⟨#[]⟩ : ByteArray)) (fun k => ?_) (Ev.now _), Ev.step (f := fun _ => some (⟨#[]⟩ : ByteArray)) (fun k => ?_) (Ev.now _)⟩
    · simp only [getopt_Winner.l0]; rw [if_neg (by omega)]
    · simp only [tinselref09_Winner.l0]; rw [if_neg (by omega)]
  | succ d ih =>
    intro i hd hi
    have h0 : 0 ≤ i := by omega
    obtain ⟨r, hr1, hr2⟩ := ih (i - 1) (by omega) (by omega)
    obtain ⟨i1, i2⟩ := winner_inner l x hx i h0 hi x.size 0 (by omega)
    have hstep : ∀ k, tinselref09_Winner.l0 (k + 1) l x i = tinselref09_Winner.l1 k l x i ((0 : Nat) : Int) := fun k => by
      simp only [tinselref09_Winner.l0]
      rw [if_pos (by omega)]
      rfl
    have hs := data_length (rd_T67 l i).f0
    by_cases hone : (((rd_T67 l i).f0).size : Int) = 1
    · obtain ⟨b, hb⟩ : ∃ b, (rd_T67 l i).f0.data.toList = [b] := by
        cases hd2 : (rd_T67 l i).f0.data.toList with
        | nil => rw [hd2] at hs; simp at hs; omega
        | cons b t =>
          cases t with
          | nil => exact ⟨b, rfl⟩
          | cons c t => rw [hd2] at hs; simp at hs; omega
      have hc : strings_Contains.f x (rd_T67 l i).f0 = some (x.data.toList.contains b) := by unfold strings_Contains.f; rw [hb]
      by_cases hin : x.data.toList.contains b = true
      · obtain ⟨j, hj, hjb⟩ := List.mem_iff_getElem.1 (List.contains_iff_mem.1 hin)
        have hjs : j < x.size := by rw [data_length] at hj; exact hj
        refine ⟨(rd_T67 l i).f0, Ev.step (f := fun _ => some (rd_T67 l i).f0) (fun k => ?_) (Ev.now _), Ev.step hstep (i1 ⟨j, hjs, Nat.zero_le _, by rw [hb, hjb]⟩)⟩
        simp only [getopt_Winner.l0]
        rw [if_pos (by omega), if_pos h0, if_pos hi, if_pos hone, hc]
        simp only [Option.bind_some]
        rw [if_pos hin]
      · refine ⟨r, Ev.step (fun k => ?_) hr1, Ev.step hstep (i2 (fun j' hj' _ he => ?_) r (by rw [w64 (by omega) (by omega)]; exact hr2))⟩
        · simp only [getopt_Winner.l0]
          rw [if_pos (by omega), if_pos h0, if_pos hi, if_pos hone, hc]
          simp only [Option.bind_some]
          rw [if_neg hin, w64 (by omega) (by omega)]
        · rw [hb] at he
          injection he with he
          exact hin (List.contains_iff_mem.2 (by rw [he]; exact List.getElem_mem _))
    · refine ⟨r, Ev.step (fun k => ?_) hr1, Ev.step hstep (i2 (fun j' hj' _ he => ?_) r (by rw [w64 (by omega) (by omega)]; exact hr2))⟩
      · simp only [getopt_Winner.l0]
        rw [if_pos (by omega), if_pos h0, if_pos hi, if_neg hone, w64 (by omega) (by omega)]
      · rw [he] at hs
        simp at hs
        omega

/-- THE LAW, PLAIN. -/
theorem asks_pure (l : List S67) (a1 a2 : ByteArray) (hl : l.length ≤ 9223372036854775807) (h2 : a2.size ≤ 9223372036854775807) : Ev (fun k => tinsellaw09_GetoptAsks.f k l a1 a2) true := by
  obtain ⟨⟨r1, r2⟩, hr⟩ := last_ends l a1 hl l.length (wrap64 ((l.length : Int) - 1)) (by rw [w64 (by omega) (by omega)]; omega) (by rw [w64 (by omega) (by omega)]; omega)
  obtain ⟨n, hn⟩ := count_ends l a1 hl l.length 0 0 (by omega) (by omega)
  obtain ⟨v, hv1, hv2⟩ := winner_both l a2 hl h2 l.length (wrap64 ((l.length : Int) - 1)) (by rw [w64 (by omega) (by omega)]; omega) (by rw [w64 (by omega) (by omega)]; omega)
  have hn2 : Ev (fun k => getopt_Count.f k l a1) n := Ev.congr (fun k => count_eq k a1 0 l _ 0) hn
  have hl2 : Ev (fun k => getopt_Last.f k l a1) (r1, r2) := Ev.congr (fun k => last_eq k l a1 _) hr
  unfold tinsellaw09_GetoptAsks.f
  refine Ev.bind hl2 (Ev.bind hr (Ev.bind hn ?_))
  simp only [if_true]
  refine Ev.congr (f := fun k => (getopt_Count.f k l a1).bind fun t => if t = n then (getopt_Has.f k l a1).bind fun q => if (q == decide (n > 0)) = true then (getopt_Winner.f k l a2).bind fun y => (tinselref09_Winner.f k l a2).bind fun z => if y.toList = z.toList then (tinsellaw09_lives.f k).bind fun t => some t else some false else some false else some false) (fun k => by simp) ?_
  refine Ev.bind hn2 ?_
  refine Ev.congr (fun k => if_pos rfl) ?_
  have hh : Ev (fun k => getopt_Has.f k l a1) (decide (n > 0)) := by
    unfold getopt_Has.f
    exact Ev.bind hn2 (Ev.now _)
  refine Ev.bind hh ?_
  refine Ev.congr (fun k => if_pos (by simp)) ?_
  refine Ev.bind hv1 (Ev.bind hv2 ?_)
  refine Ev.congr (fun k => if_pos rfl) ?_
  exact Ev.bind lives_true (Ev.now _)

end Go.Proofs.Ytcmicndmaaaknaa.G
