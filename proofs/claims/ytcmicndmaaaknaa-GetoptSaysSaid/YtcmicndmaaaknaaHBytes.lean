/- Small laws on byte strings made of lists, and on the spec's scan. -/
import Derived.Test.YtcmicndmaaaknaaHModel
import Derived.Test.YtcmicndmaaaknaaG3
namespace Go.Proofs.Ytcmicndmaaaknaa.G
open Go.RowKit Go.Proofs.YtcmicndmaaaknaaW.PrintWords

theorem mkB_size (s : List UInt8) : (mkB s).size = s.length := by simp [mkB, ByteArray.size]
theorem mkB_get (s : List UInt8) (j : Nat) (h : j < (mkB s).size) : ((mkB s)[j]'h) = s[j]'(by rw [← mkB_size]; exact h) := by
  simp [mkB, ByteArray.getElem_eq_getElem_data]
theorem mkB_data (l : List UInt8) : (mkB l).data.toList = l := by simp [mkB]
theorem mkB_toList (s : ByteArray) : mkB s.data.toList = s := by simp [mkB]
theorem eq_mkB {a : ByteArray} {l : List UInt8} (h : a.data.toList = l) : a = mkB l := by rw [← h, mkB_toList]
theorem mkB_append (a b : List UInt8) : mkB a ++ mkB b = mkB (a ++ b) := eq_mkB (by simp [mkB])
theorem mkB_cut (l : List UInt8) (i j : Nat) : (mkB l).extract i j = mkB ((l.drop i).take (j - i)) := eq_mkB (by simp [mkB])
theorem mkB_drop (l : List UInt8) (i : Nat) : (mkB l).extract i (mkB l).size = mkB (l.drop i) := by
  rw [mkB_cut, mkB_size, List.take_of_length_le (by simp)]
theorem mkB_take1 (l : List UInt8) (i : Nat) (h : i < l.length) : (mkB l).extract i (i + 1) = mkB [l[i]] := by
  rw [mkB_cut, List.drop_eq_getElem_cons h, show i + 1 - i = 1 from by omega]
  rfl
theorem data_length (s : ByteArray) : s.data.toList.length = s.size := Array.length_toList
theorem strip_le (l : List UInt8) : (strip l).length ≤ l.length := by unfold strip; split <;> simp

theorem isLet_low {b : UInt8} (h : isLet b = true) : b.toNat < 128 := by
  simp [isLet] at h
  omega
theorem isLet_58 {b : UInt8} (h : isLet b = true) : b.toNat ≠ 58 := by
  simp [isLet] at h
  omega

/-- the plain side of the scan's relation -/
structure PFact (L : List UInt8) (pos : Nat) (ls ts : List UInt8) (last : Bool) : Prop where
  le : pos ≤ L.length
  run : scan (L.drop pos) ls ts last = scan L [] [] false
  nl : ls.length ≤ pos
  nt : ts.length ≤ pos
  asc : ∀ b ∈ ls, b.toNat < 128
  ne : last = true → 0 < ls.length

theorem PFact.start (L : List UInt8) : PFact L 0 [] [] false := ⟨Nat.zero_le _, by simp, by simp, by simp, by simp, by simp⟩
section
variable {L : List UInt8} {pos : Nat} {ls ts : List UInt8} {last : Bool} {b : UInt8}
theorem PFact.colon (h : PFact L pos ls ts true) (hp : pos < L.length) (hd : L.drop pos = b :: L.drop (pos + 1)) (hc : b.toNat = 58) : PFact L (pos + 1) ls (ts ++ ls.drop (ls.length - 1)) false := by
  have h1 := h.ne rfl
  have h2 := h.nl
  have h3 := h.nt
  refine ⟨hp, ?_, by omega, by simp; omega, h.asc, by simp⟩
  rw [← h.run, hd]
  simp [scan, hc]
theorem PFact.letter (h : PFact L pos ls ts last) (hp : pos < L.length) (hd : L.drop pos = b :: L.drop (pos + 1)) (hl : isLet b = true) (hn : ls.contains b = false) : PFact L (pos + 1) (ls ++ [b]) ts true := by
  have h1 := isLet_58 hl
  have h2 := h.nl
  have h3 := h.nt
  refine ⟨hp, ?_, by simp; omega, by omega, ?_, by simp⟩
  · rw [← h.run, hd]
    rw [scan, if_neg (fun e => h1 e.1), if_pos ⟨hl, hn⟩]
  · intro x hx
    rcases List.mem_append.1 hx with hx | hx
    · exact h.asc x hx
    · rw [List.mem_singleton.1 hx]; exact isLet_low hl
theorem PFact.fail (h : PFact L pos ls ts last) (hd : L.drop pos = b :: L.drop (pos + 1)) (h1 : ¬ (b.toNat = 58 ∧ last = true)) (h2 : ¬ (isLet b = true ∧ ls.contains b = false)) : scan L [] [] false = none := by
  rw [← h.run, hd, scan, if_neg h1, if_neg h2]
theorem PFact.done (h : PFact L pos ls ts last) (hp : ¬ pos < L.length) : scan L [] [] false = some (ls, ts) := by
  rw [← h.run, List.drop_eq_nil_of_le (by omega), scan]
end

theorem encode_ascii (c : Nat) (h : c < 128) (b : UInt8) (hb : b.toNat = c) : Utf8.encode (c : Int) = mkB [b] := by
  subst hb
  have e : UInt8.ofNat b.toNat = b := by simp
  have hv : Utf8.valid (b.toNat : Int) = true := by
    simp [Utf8.valid]
    omega
  unfold Utf8.encode
  simp [hv, h, mkB]

theorem bt_data (x : ByteArray) (i : Nat) : bt x i = ((x.data.toList[i]?).map (fun b => (b.toNat : Int))).getD 0 := by
  unfold bt
  rw [Int.toNat_natCast]
  by_cases h : i < x.size
  · rw [dif_pos h, List.getElem?_eq_getElem (by rw [data_length]; exact h)]
    simp [ByteArray.getElem_eq_getElem_data]
  · rw [dif_neg h, List.getElem?_eq_none (by rw [data_length]; omega)]
    rfl
theorem isClus_true {x : ByteArray} (h : isClus x = true) : 1 < x.size ∧ (bt x 0 == 45) = true := by
  unfold isClus at h
  rw [Bool.and_eq_true] at h
  refine ⟨of_decide_eq_true h.1, ?_⟩
  have hb := bt_data x 0
  have e : ((0 : Nat) : Int) = 0 := rfl
  rw [e] at hb
  rw [hb]
  cases hd : x.data.toList with
  | nil => rw [hd] at h; simp at h
  | cons b r =>
    rw [hd] at h
    have := beq_iff_eq.1 h.2
    simp [this]
theorem isClus_false {x : ByteArray} (h : isClus x = false) : x.size ≤ 1 ∨ (1 < x.size ∧ (bt x 0 == 45) = false) := by
  by_cases hz : 1 < x.size
  · refine .inr ⟨hz, ?_⟩
    unfold isClus at h
    rw [decide_eq_true hz, Bool.true_and] at h
    have hb := bt_data x 0
    have e : ((0 : Nat) : Int) = 0 := rfl
    rw [e] at hb
    rw [hb]
    cases hd : x.data.toList with
    | nil => simp
    | cons b r =>
      rw [hd] at h
      have h2 : ¬ b.toNat = 45 := by simpa using h
      rw [beq_eq_false_iff_ne]
      simp
      omega
  · exact .inl (by omega)

theorem lite_plus (s : ByteArray) : stringslite_HasPrefix.f s ⟨#[43]⟩ = some (plus s.data.toList) := by
  have hz : (⟨#[43]⟩ : ByteArray).size = 1 := rfl
  unfold stringslite_HasPrefix.f
  rw [hz]
  by_cases h : (s.size : Int) ≥ ((1 : Nat) : Int)
  · rw [if_pos h, if_pos (by omega), if_pos (by omega)]
    congr 1
    rw [ByteArray.toList_eq, ByteArray.toList_eq]
    have hl := data_length s
    cases hd : s.data.toList with
    | nil => rw [hd] at hl; simp at hl; omega
    | cons b r =>
      have e : (s.extract 0 ((1 : Nat) : Int).toNat).data.toList = [b] := by
        simp [hd]
      rw [e]
      simp only [plus]
      rw [Bool.eq_iff_iff]
      simp
      constructor
      · intro h; rw [h]; rfl
      · intro h; exact UInt8.toNat_inj.1 h
  · rw [if_neg h]
    have hl := data_length s
    have : s.data.toList = [] := List.eq_nil_of_length_eq_zero (by omega)
    rw [this]
    rfl
theorem hasPrefix_plus (s : ByteArray) : strings_HasPrefix.f s ⟨#[43]⟩ = some (plus s.data.toList) := by
  unfold strings_HasPrefix.f
  rw [lite_plus]
  rfl
theorem trimPrefix_plus (s : ByteArray) : strings_TrimPrefix.f s ⟨#[43]⟩ = some (mkB (strip s.data.toList)) := by
  unfold strings_TrimPrefix.f stringslite_TrimPrefix.f
  rw [lite_plus]
  have hz : (⟨#[43]⟩ : ByteArray).size = 1 := rfl
  rw [hz]
  simp only [Option.bind_some]
  have hl := data_length s
  by_cases h : plus s.data.toList = true
  · have h1 : 1 ≤ s.size := by
      rw [← hl]
      cases hd : s.data.toList with
      | nil => rw [hd] at h; simp [plus] at h
      | cons b r => simp
    rw [if_pos h, if_pos (by omega), if_pos (by omega)]
    simp only [Option.bind_some, strip, if_pos h]
    congr 1
    have e : (((1 : Nat) : Int)).toNat = 1 := rfl
    rw [e, ← mkB_toList s, mkB_drop, mkB_data]
  · rw [if_neg h]
    simp only [Option.bind_some, strip, if_neg h]
    rw [mkB_toList]

end Go.Proofs.Ytcmicndmaaaknaa.G
