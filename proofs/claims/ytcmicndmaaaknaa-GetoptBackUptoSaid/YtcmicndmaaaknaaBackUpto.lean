/- For every spec and every list of arguments that together hold at most 1048576 values and letters, GetoptBack returns true, and its arguments read behind the call as before it.
   Conditions: the bound on what comes in, as the statement has it. -/
import Derived.Test.YtcmicndmaaaknaaRows
import Derived.Test.YtcmicndmaaaknaaJ
import Derived.Test.YtcmicndmaaaknaaHBulk
import Derived.WalkKit
import Derived.ProofKit
import Derived.OpenShut
import Derived.ShutString
import Derived.ChangeOld
import Derived.Below
import Derived.JoinedCond
namespace Go.Proofs.Ytcmicndmaaaknaa.getoptBackUpto
open Go.ChangeShapes Go.WideShapes Go.ChangeAt Go.RowKit
open Go.ChangeMaps (open_string shut_string)
open Go.Proofs.Ytcmicndmaaaknaa.G
set_option linter.unusedVariables false
theorem own : ownKnob Try.prog.godebug = none := by kernel_rfl
theorem laidOut : laidOutB Try.prog = true := by kernel_rfl
set_option maxRecDepth 100000 in
theorem lifted (os : Os) (started : os.Started) (H : Type) (enc : TypeId × Value → H) (F : Stop.Interp) :
    ReturnsInHanded {} Try.checked os 5 .any ((Rows.OpenSpec.upto Rows.getoptBackSpec).pre6 enc Try.prog Try.f5 Rows.getoptBackUptoRow.domain false) (((Rows.OpenSpec.upto Rows.getoptBackSpec).at F).post enc Try.prog Try.f5 false true false false) := by
  refine handed_cond_shaped (C := Try.checked) (s := Rows.OpenSpec.upto Rows.getoptBackSpec) (k := Rows.uptoSmall) rfl own started (by kernel_rfl) Try.func5
    (OpenSpec.witness (enc := enc) (C := Try.checked) (s := Rows.OpenSpec.upto Rows.getoptBackSpec) (k := Rows.uptoSmall) rfl false ⟨#[], #[.string ByteArray.empty, .slice none 0 0], []⟩ 8 (by kernel_rfl) (by kernel_rfl) (by kernel_rfl)
      (x := ([.lit (.string []), .nil], [], [])) (by kernel_rfl) rfl (by kernel_rfl)) ?_
  intro W base args ds gs before hval0 hW hcnd hk hsh _
  have hval : ∀ (j : Nat) t v, Try.f5.params[j]? = some t → args[j]? = some v → Value.okWide Try.prog W .any base t v := hval0
  have hW' := hW
  obtain ⟨p, q, hA0, hV, rfl, hfz, hnd⟩ := hW
  have hA : DataW.TrodAll enc Try.prog W 0 (fun _ => true) true Try.f5.params.toList args.toList ds p := hA0
  rw [Try.params5] at hA hval
  obtain ⟨v0, vs0, d0, ds0, p0, q0, hargs, rfl, rfl, h0, r0⟩ := trodAll_cons hA
  obtain ⟨v1, vs1, d1, ds1, p1, q1, rfl, rfl, rfl, h1, r1⟩ := trodAll_cons r0
  obtain ⟨rfl, rfl, rfl⟩ := trodAll_nil r1
  obtain rfl : args = #[v0, v1] := by cases args; simp_all
  obtain ⟨rfl, rfl⟩ := trodVars_none hV
  obtain ⟨a0, rfl, rfl, rfl, y0⟩ := open_string Try.underlying9 (hval 0 9 v0 rfl rfl) h0
  obtain ⟨a1, len1, cap1, rfl⟩ := okWide_slice Try.underlying22 (hval 1 22 v1 rfl rfl)
  have k1 := h1
  have lt1 : ∀ x ∈ p1, x.block < W.heap.size := by obtain ⟨m, hm⟩ := k1; exact DataW.trod_lt m _ _ _ hm
  obtain ⟨l, hl, hc, hC, hd⟩ := open_texts h1
  subst hl
  have hb := bulks.bound hk
  have hb0 : a0.size ≤ 1048576 := by
    have := bulks.part_le (l := [DataW.lit (.string a0.data.toList), d1] ++ []) (d := DataW.lit (H := H) (.string a0.data.toList)) (by simp)
    rw [bulks.string_eq] at this
    have h2 := data_length a0
    omega
  have hb1 : weight l ≤ 1048576 := by
    have := bulks.part_le (l := [DataW.lit (.string a0.data.toList), d1] ++ []) (d := d1) (by simp)
    have h2 := bulks.texts hd
    omega
  clear hA0 hval0
  obtain ⟨k, hk2⟩ := (back_pure a0 l (by omega) (by omega)).rounds
  refine (tinsellaw09_GetoptBack.calls k a0 a1 cap1 l true W ⟨maxOk_of_shaped hsh, by omega⟩ hC hc hk2).mono fun e W' ⟨he, bel⟩ => ?_
  subst he
  exact ⟨_, rfl, _, _, _, [], _, [], hW', trodAll_mk1 (shut_bool Try.underlying4 _), (trodAll_cons_mk (shut_string Try.underlying9 y0) (trodAll_cons_mk (Below.trod laidOut (by kernel_rfl) (of_decide_eq_true (by kernel_rfl)) k1 bel lt1) trodAll_mk0)), rfl, bel.frame _, fun h => by cases h⟩
theorem over : Rows.getoptBackUptoRow.holds Try.pinned (Rows.OpenSpec.upto Rows.getoptBackSpec) :=
  OpenClaim.holds_of_cond 5 Try.f5 rfl rfl rfl rfl rfl rfl rfl ⟨rfl, rfl, rfl, rfl, rfl⟩ rfl rfl rfl rfl rfl (by kernel_rfl) Try.func5 (by kernel_rfl)
    (of_decide_eq_true (by kernel_rfl)) (by unfold Func.isWrapper; first | (rw [if_pos (by decide +kernel)]; kernel_rfl) | (rw [if_neg (by decide +kernel)]; exact ⟨rfl, rfl⟩))
    (fun os started H enc _ F => lifted os started H enc F)
theorem proved : Rows.GetoptBackUptoSaid := over
#print axioms proved
end Go.Proofs.Ytcmicndmaaaknaa.getoptBackUpto
namespace Go.Proofs.Ytcmicndmaaaknaa
theorem getoptBackUpto_holds : Rows.GetoptBackUptoSaid := getoptBackUpto.proved
end Go.Proofs.Ytcmicndmaaaknaa
