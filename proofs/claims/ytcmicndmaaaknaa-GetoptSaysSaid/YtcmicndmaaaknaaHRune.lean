/- getopt.hasRune over a text of ASCII letters: is a rune one of its bytes? -/
import Derived.Test.YtcmicndmaaaknaaHBytes
import Derived.Lib.OthersKept
import Derived.Lib.Hide
namespace Go.Proofs.Ytcmicndmaaaknaa.G
open Go.RowKit Go.Proofs.YtcmicndmaaaknaaW.PrintWords
set_option linter.unusedVariables false
set_option linter.unusedSimpArgs false

def hasR (s : List UInt8) (r : Int) : Bool := s.any (fun b => (b.toNat : Int) == r)

theorem hasR_end (s : List UInt8) (r : Int) (h : ∀ j, (hj : j < s.length) → (((s[j]'hj).toNat : Int) == r) = false) : hasR s r = false := by
  unfold hasR
  rw [List.any_eq_false]
  intro x hx
  obtain ⟨j, hj, rfl⟩ := List.mem_iff_getElem.1 hx
  simp [h j hj]
theorem hasR_hit (s : List UInt8) (r : Int) (j : Nat) (hj : j < s.length) (h : (((s[j]'hj).toNat : Int) == r) = true) : hasR s r = true := by
  unfold hasR
  rw [List.any_eq_true]
  exact ⟨s[j], List.getElem_mem hj, h⟩

set_option maxHeartbeats 1000000 in
theorem hasRune_calls (s : List UInt8) (r : Int) (w : World) (ha : ∀ b ∈ s, b.toNat < 128) (hs : s.length ≤ 140737488355328) :
    Calls Try.prog 33 #[.string (mkB s), .int .i32 r] w fun e w' => e = .returned (.bool (hasR s r)) ∧ Below w.heap.size w w' := by
  have HA := Lib.hid ha
  clear ha
  obtain ⟨S, hS⟩ : ∃ S, S = mkB s := ⟨_, rfl⟩
  rw [← hS]
  have hsz : S.size = s.length := by rw [hS]; exact mkB_size s
  have HS := Lib.hid hS
  have HZ := Lib.hid hsz
  clear hS hsz
  go_enter Try.func33, Try.ntmps33
  go_wp2
  go_loopw [] (fun wr => ∃ (pos : Nat), pos ≤ S.size ∧ wr.heap[w.heap.size]? = some (.stringIter S pos) ∧ Below w.heap.size w wr ∧ Hid (∀ j, (hj : j < s.length) → j < pos → (((s[j]'hj).toNat : Int) == r) = false)) (fun wr => S.size - wr.iterPos w.heap.size)
  case atStart =>
    refine ⟨0, Nat.zero_le _, ?_, (Below.refl _ w).alloc (Nat.le_refl _) _, Lib.hid (fun j hj h => by omega)⟩
    have := World.iter_heap w S 0
    simpa using this
  case round =>
    obtain ⟨pos, hps, hit, hbw, HN⟩ := hrel
    have hszw : w.heap.size < wr.heap.size := (Array.getElem?_eq_some_iff.1 hit).1
    by_cases hp : pos < S.size
    · have hpl : pos < s.length := by have := HZ.out; omega
      have hc8 : (S[pos]'hp).toNat < 128 := by
        have e : S[pos]'hp = s[pos]'hpl := by simp only [HS.out]; exact mkB_get s pos _
        rw [e]; exact HA.out _ (List.getElem_mem hpl)
      have hcc : ((S[pos]'hp).toNat : Int) = ((s[pos]'hpl).toNat : Int) := by
        have e : S[pos]'hp = s[pos]'hpl := by simp only [HS.out]; exact mkB_get s pos _
        rw [e]
      obtain ⟨c, hcd⟩ : ∃ c : Nat, (S[pos]'hp).toNat = c := ⟨_, rfl⟩
      have hnx : ∀ ty, (Instr.next (.pointer (some ⟨w.heap.size, 0, none⟩)) true ty).run Try.prog wr = _ := fun ty => Lib.run_next_ascii_at wr w.heap.size S pos ty hit hp hc8
      have hit2 := Lib.iterAt_heap wr w.heap.size S pos (pos + 1) hit
      have hbw2 := Lib.below_iterAt hbw (k := w.heap.size) (by omega) S (pos + 1)
      simp only [hcd] at hnx hcc
      have HC := Lib.hid hcc
      clear hcd hcc hc8
      by_cases hr : ((c : Int) == r) = true
      · have hfin : hasR s r = true := hasR_hit s r pos hpl (by rw [← HC.out]; exact hr)
        go_wp2
        go_ret
        rw [hfin]
        exact ⟨rfl, hbw2⟩
      · have hr2 : ((c : Int) == r) = false := by simpa using hr
        clear hr
        have HN2 : Hid (∀ j, (hj : j < s.length) → j < pos + 1 → (((s[j]'hj).toNat : Int) == r) = false) := fun j hj h => by
          by_cases e : j = pos
          · subst e; rw [← HC.out]; exact hr2
          · exact HN.out j hj (by omega)
        go_wp2
        go_roundw
        case rel => exact ⟨pos + 1, by omega, hit2, hbw2, HN2⟩
        case measure => simp only [World.iterPos, hit2, hit]; omega
    · have hnx : ∀ ty, (Instr.next (.pointer (some ⟨w.heap.size, 0, none⟩)) true ty).run Try.prog wr = _ := fun ty => Lib.run_next_end_at wr w.heap.size S pos ty hit hp
      have hfin : hasR s r = false := hasR_end s r (fun j hj => HN.out j hj (by have := HZ.out; omega))
      go_wp2
      go_ret
      rw [hfin]
      exact ⟨rfl, hbw⟩

end Go.Proofs.Ytcmicndmaaaknaa.G
