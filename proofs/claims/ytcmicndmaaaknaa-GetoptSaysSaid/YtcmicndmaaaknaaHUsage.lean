/- getopt.Usage's contract in the form that its callers ask. -/
import Derived.Test.YtcmicndmaaaknaaHUsage0
namespace Go.Proofs.Ytcmicndmaaaknaa.G
open Go.RowKit Go.Proofs.YtcmicndmaaaknaaW.PrintWords
set_option linter.unusedVariables false
set_option linter.unusedSimpArgs false

set_option maxHeartbeats 2000000 in
set_option maxRecDepth 100000 in
theorem usage_none_calls (s : ByteArray) (w : World) (hs : s.size ≤ 140737488355328) (hspec : specOf s = none) :
    Calls Try.prog 22 #[.string s] w fun e w' => e = .returned (.tuple #[.string (mkB []), .int .i64 22]) ∧ Below w.heap.size w w' := by
  have HSP := Aside0.mk hspec
  clear hspec
  have hu53 := Try.underlying53
  go_enter Try.func22, Try.ntmps22
  go_wp2_with fail
  refine (parse_calls s _ (by omega)).mono ?_
  rintro e w1 ⟨hsp, hb1⟩
  rw [HSP.out] at hsp
  obtain rfl := hsp
  have HB := Aside0.mk hb1
  clear hb1
  go_wp2
  go_ret2
  exact ⟨rfl, HB.out.alloc HB.out.size _⟩

theorem getopt_Usage.calls (a0 : ByteArray) (r1 : ByteArray) (r2 : Int) (w : World) (h : getopt_Usage.f a0 = some (r1, r2)) :
    Calls Try.prog 22 #[.string a0] w fun e w' => e = .returned (.tuple #[.string r1, .int .i64 r2]) ∧ Below w.heap.size w w' := by
  unfold getopt_Usage.f at h
  by_cases hw : a0.size ≤ 140737488355328
  · rw [if_pos hw] at h
    cases hsp : specOf a0 with
    | none =>
      rw [hsp] at h
      injection h with h
      injection h with h1 h2
      subst h1 h2
      exact usage_none_calls a0 w hw hsp
    | some p =>
      obtain ⟨fi, ls, ts⟩ := p
      rw [hsp] at h
      injection h with h
      injection h with h1 h2
      subst h1 h2
      exact usage_loop_calls a0 w hw fi ls ts hsp
  · rw [if_neg hw] at h
    cases h
end Go.Proofs.Ytcmicndmaaaknaa.G
