/- For every spec, applet name and told option, GetoptSays returns true, and its arguments read behind the call as before it.
   Conditions: none. -/
import Derived.Test.YtcmicndmaaaknaaRows
import Derived.Test.YtcmicndmaaaknaaPSays
import Derived.Test.YtcmicndmaaaknaaHOpen
import Derived.Lib.SmallJoins
import Derived.WalkKit
import Derived.ProofKit
import Derived.OpenShut
import Derived.ShutString
import Derived.ChangeOld
import Derived.Below
import Derived.SizedLaws
namespace Go.Proofs.Ytcmicndmaaaknaa.getoptSays
open Go.ChangeShapes Go.WideShapes Go.ChangeAt Go.RowKit
open Go.ChangeMaps (open_string shut_string)
open Go.Proofs.Ytcmicndmaaaknaa.G
set_option linter.unusedVariables false
theorem own : ownKnob Try.prog.godebug = none := by kernel_rfl
theorem laidOut : laidOutB Try.prog = true := by kernel_rfl
theorem cells25 : Try.prog.cellsOf 25 = 2 := by kernel_rfl
theorem one_string {H : Type} {enc : TypeId × Value → H} {w : World} {base : Nat} {spare : Nat → Bool} {held : Bool} {n : Nat} {v : Value} {y : DataW H × List MemPlace} (h : DataW.trod enc Try.prog w base spare held n 9 [v] = some y) : ∃ s : ByteArray, v = .string s ∧ y.1 = .lit (.string s.data.toList) := by
  obtain ⟨s, e, rfl, _⟩ := DataW.trod_string Try.underlying9 h
  injection e with e
  exact ⟨s, e, rfl⟩
theorem one_bool {H : Type} {enc : TypeId × Value → H} {w : World} {base : Nat} {spare : Nat → Bool} {held : Bool} {n : Nat} {v : Value} {y : DataW H × List MemPlace} (h : DataW.trod enc Try.prog w base spare held n 4 [v] = some y) : ∃ s : Bool, v = .bool s ∧ y.1 = .lit (.bool s) := by
  obtain ⟨s, e, rfl⟩ := DataW.trod_bool Try.underlying4 h
  injection e with e
  exact ⟨s, e, rfl⟩
set_option maxRecDepth 100000 in
theorem lifted (os : Os) (started : os.Started) (H : Type) (enc : TypeId × Value → H) :
    ReturnsInHanded {} Try.checked os 7 .any (Rows.getoptSaysSpec.pre6 enc Try.prog Try.f7 Rows.getoptSaysRow.domain false) (Rows.getoptSaysSpec.post enc Try.prog Try.f7 false true false false) := by
  refine returnsInHanded_of_change_sized (C := Try.checked) own started (by kernel_rfl) Try.func7
    (ChangeSpec.witness6 (enc := enc) (C := Try.checked) false ⟨#[], #[.string ByteArray.empty, .string ByteArray.empty, .agg #[.string ByteArray.empty, .bool false]], []⟩ 8 (by kernel_rfl) (by kernel_rfl) (by kernel_rfl) (by kernel_rfl)) ?_
  intro W base args ds gs before hval0 hW hcnd hsz0 _
  have hval : ∀ (j : Nat) t v, Try.f7.params[j]? = some t → args[j]? = some v → Value.okWide Try.prog W .any base t v := hval0
  have hW' := hW
  obtain ⟨p, q, hA0, hV, rfl, hfz, hnd⟩ := hW
  have hA : DataW.TrodAll enc Try.prog W 0 (fun _ => true) true Try.f7.params.toList args.toList ds p := hA0
  rw [Try.params7] at hA hval
  obtain ⟨v0, vs0, d0, ds0, p0, q0, hargs, rfl, rfl, h0, r0⟩ := trodAll_cons hA
  obtain ⟨v1, vs1, d1, ds1, p1, q1, rfl, rfl, rfl, h1, r1⟩ := trodAll_cons r0
  obtain ⟨v2, vs2, d2, ds2, p2, q2, rfl, rfl, rfl, h2, r2⟩ := trodAll_cons r1
  obtain ⟨rfl, rfl, rfl⟩ := trodAll_nil r2
  obtain rfl : args = #[v0, v1, v2] := by cases args; simp_all
  obtain ⟨rfl, rfl⟩ := trodVars_none hV
  obtain ⟨a0, rfl, rfl, rfl, y0⟩ := open_string Try.underlying9 (hval 0 9 v0 rfl rfl) h0
  obtain ⟨a1, rfl, rfl, rfl, y1⟩ := open_string Try.underlying9 (hval 1 9 v1 rfl rfl) h1
  have k2 := h2
  have lt2 : ∀ x ∈ p2, x.block < W.heap.size := by obtain ⟨m, hm⟩ := k2; exact DataW.trod_lt m _ _ _ hm
  obtain ⟨c0, c1, y2, y3, m, rfl, hd2, hp2, hy0, hy1⟩ := Go.Joins.open_agg2 Try.underlying25 (by kernel_rfl) cells25 (hval 2 25 v2 rfl rfl) h2
  obtain ⟨a2, rfl, e0⟩ := one_string hy0
  obtain ⟨b2, rfl, e1⟩ := one_bool hy1
  have hb0 := sized_string (j := 0) (t := 9) (bytes := a0.data.toList) hsz0 rfl rfl
  have hb1 := sized_string (j := 1) (t := 9) (bytes := a1.data.toList) hsz0 rfl rfl
  have hb2 : a2.size ≤ reachBytes := by
    rw [hd2, e0] at hsz0
    have := List.all_eq_true.1 hsz0 _ (DataW.weights_mem_each (j := 2) (t := 25) (d := .agg [.lit (.string a2.data.toList), y3.1]) rfl rfl a2.data.toList.length (by have hu25 : Try.checked.prog.underlying 25 = _ := Try.underlying25; simp [DataW.weights, DataW.weightsEach, hu25]))
    rw [data_length] at this
    simpa using this
  rw [data_length] at hb0 hb1
  have hrb := reachBytes_lt
  clear hA0 hval0 hsz0
  obtain ⟨k, hk⟩ := (says_pure a0 a1 a2 b2 (by omega) (by omega) (by omega)).rounds
  refine (tinsellaw09_GetoptSays.calls k a0 a1 a2 b2 true W hk).mono fun e W' ⟨he, bel⟩ => ?_
  subst he
  exact ⟨_, rfl, _, _, _, [], _, [], hW', trodAll_mk1 (shut_bool Try.underlying4 _), (trodAll_cons_mk (shut_string Try.underlying9 y0) (trodAll_cons_mk (shut_string Try.underlying9 y1) (trodAll_cons_mk (Below.trod laidOut (by kernel_rfl) (of_decide_eq_true (by kernel_rfl)) k2 bel lt2) trodAll_mk0))), rfl, bel.frame _, fun h => by cases h⟩
theorem over : Rows.getoptSaysRow.holds Try.pinned (OpenSpec.ofChange Rows.getoptSaysSpec) :=
  OpenClaim.holds_of_wide 7 Try.f7 rfl rfl rfl rfl rfl rfl rfl ⟨rfl, rfl, rfl, rfl, rfl⟩ rfl rfl rfl rfl rfl (by kernel_rfl) Try.func7 (by kernel_rfl)
    (of_decide_eq_true (by kernel_rfl)) (by unfold Func.isWrapper; first | (rw [if_pos (by decide +kernel)]; kernel_rfl) | (rw [if_neg (by decide +kernel)]; exact ⟨rfl, rfl⟩))
    (fun os started H enc _ => lifted os started H enc)
theorem proved : Rows.GetoptSaysSaid := over
#print axioms proved
end Go.Proofs.Ytcmicndmaaaknaa.getoptSays
namespace Go.Proofs.Ytcmicndmaaaknaa
theorem getoptSays_holds : Rows.GetoptSaysSaid := getoptSays.proved
end Go.Proofs.Ytcmicndmaaaknaa
