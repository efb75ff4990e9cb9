/- getopt.Parse's contract in the form that its callers ask. -/
import Derived.Test.YtcmicndmaaaknaaHLoop
namespace Go.Proofs.Ytcmicndmaaaknaa.G
open Go.RowKit Go.Proofs.YtcmicndmaaaknaaW.PrintWords
set_option linter.unusedVariables false
set_option linter.unusedSimpArgs false

set_option maxHeartbeats 2000000 in
set_option maxRecDepth 100000 in
theorem parse_none_calls (s : ByteArray) (A1 : Option Addr) (n1 c1 : Nat) (w : World) (hs : s.size ≤ 140737488355328) (hspec : specOf s = none) :
    Calls Try.prog 8 #[.string s, .slice A1 n1 c1] w (PPost w ([], [], mkB [], false, 22)) := by
  have HSP := Lib.hid hspec
  clear hspec
  have hu53 := Try.underlying53
  have hu25 := Try.underlying25
  go_enter Try.func8, Try.ntmps8
  go_wp2_with fail
  refine (parse_calls s _ hs).mono ?_
  rintro e w1 ⟨hsp, hb1⟩
  rw [HSP.out] at hsp
  obtain rfl := hsp
  have HRES := Aside0.mk (blk_below (blk_new w (.cells #[.string { data := #[] }, .bool false] 25)) hb1)
  have hbw : Below w.heap.size w w1 := below_step (below_alloc (Below.refl _ _) _) hb1
  have HB := Aside0.mk hbw
  have HRES2 := Aside0.mk (blk_alloc HRES.out (.cells #[.bool false, .string (mkB []), .string (mkB [])] 53))
  have cr0 := blk_cell HRES2.out 0
  have cr1 := blk_cell HRES2.out 1
  have fr0 := blk_frozen HRES2.out 0
  have fr1 := blk_frozen HRES2.out 1
  simp at cr0 cr1
  clear hb1 hbw
  go_wp2
  refine bodyPost_ret (results_list (rs := [.tmp 4, .tmp 5, .cell 6 25, .tmp 7]) rfl (by simp) (.tmp (.tmp (.cell w.heap.size 25 #[.string ⟨#[]⟩, .bool false] (0, 0) _ rfl (CPost.goodBlk HRES2.out) Try.underlying25 rfl (by kernel_rfl) (.tmp .nil))))) rfl ?_
  exact ⟨_, _, rfl, Kd.R_nil _ _ _ _ _, Kd.R_nil _ _ _ _ _, ((HB.out.alloc HB.out.size _).setCell (p := ⟨w.heap.size, 0, none⟩) (Nat.le_refl _) _).setCell (p := ⟨w.heap.size, 1, none⟩) (Nat.le_refl _) _⟩

theorem getopt_Parse.calls (a0 : ByteArray) (A1 : Option Addr) (c1 : Nat) (l1 : List ByteArray) (r1 : List (S67)) (r2 : List ByteArray) (r3 : ByteArray) (r4 : Bool) (r5 : Int) (w : World) (hr1 : Kd.C Kd.string w A1 l1.length l1) (hc1 : l1.length ≤ c1) (h : getopt_Parse.f a0 l1 = some (r1, r2, r3, r4, r5)) :
    Calls Try.prog 8 #[.string a0, .slice A1 l1.length c1] w fun e w' => ∃ v0_ v1_ : Value, e = .returned (.tuple #[v0_, v1_, .agg #[.string r3, .bool r4], .int .i64 r5]) ∧ Kd.R k67 67 w' w.heap.size (fun _ => True) v0_ r1 ∧ Kd.R Kd.string 9 w' w.heap.size (fun _ => True) v1_ r2 ∧ Below w.heap.size w w' := by
  unfold getopt_Parse.f at h
  by_cases hw : weight l1 ≤ 1099511627776 ∧ a0.size ≤ 140737488355328
  · rw [if_pos hw] at h
    cases hsp : specOf a0 with
    | none =>
      rw [hsp] at h
      injection h with h
      injection h with h1 h
      injection h with h2 h
      injection h with h3 h
      injection h with h4 h5
      subst h1 h2 h3 h4 h5
      exact parse_none_calls a0 A1 l1.length c1 w hw.2 hsp
    | some p =>
      obtain ⟨fi, ls, ts⟩ := p
      rw [hsp] at h
      injection h with h
      have := parse_loop_calls a0 A1 c1 l1 w hr1 hc1 hw.2 fi ls ts hsp hw.1
      rw [h] at this
      exact this
  · rw [if_neg hw] at h
    cases h

end Go.Proofs.Ytcmicndmaaaknaa.G
