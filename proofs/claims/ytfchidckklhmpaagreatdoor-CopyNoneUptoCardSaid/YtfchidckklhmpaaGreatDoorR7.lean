/- What lives, and CopyNone at each applet's number, come to. -/
import Derived.Test.YtfchidckklhmpaaGreatDoorR6
namespace Go.Proofs.YtfchidckklhmpaaGreatDoor.Run
open Go Go.Ev Go.Proofs
noncomputable section
set_option linter.unusedVariables false

theorem C2_fns : C2.fns = C0.fns := by kernel_rfl
theorem C2_meth : C2.meth = C0.meth := by kernel_rfl
theorem C2_P : C2.P = C0.P := by kernel_rfl
theorem C2_G : C2.G = C0.G := by kernel_rfl
theorem C2_stub : C2.stub = stubs2 := by kernel_rfl
theorem C1_P : C1.P = C2.P := by kernel_rfl
theorem C1_G : C1.G = C2.G := by kernel_rfl
theorem P2 : C2.P = Tryz.prog := by kernel_rfl
theorem G2 : C2.G = 4 := by kernel_rfl
theorem P1 : C1.P = Tryz.prog := by kernel_rfl
theorem G1 : C1.G = 4 := by kernel_rfl

theorem deB_length : deB.length = 64 := by kernel_rfl
theorem cells3_get (i : Nat) (hi : i < 64) : cells3.get i = some (vk .u8 (deB.getD i 0)) := by
  have hlen := deB_length
  unfold cells3
  cases hp : Trie.nil.puts D 0 (deB.map (vk .u8)) with
  | none =>
    have : (Trie.nil.puts D 0 (deB.map (vk .u8))).isSome = true := by kernel_rfl
    rw [hp] at this; cases this
  | some t =>
    show t.get i = _
    rw [Trie.get_puts _ _ _ _ _ hp i, if_pos ⟨Nat.zero_le _, by simp [hlen]; exact hi⟩]
    rw [Nat.sub_zero, List.getElem?_map, List.getElem?_eq_getElem (by omega : i < deB.length), List.getD, List.getElem?_eq_getElem (by omega : i < deB.length)]
    rfl
theorem blks0_get (b : Nat) : blks0.get b = if b = 3 then some (rW cells3 64 287 true) else none := by
  unfold blks0
  cases hp : Trie.nil.put D 3 (some (rW cells3 64 287 true)) with
  | none =>
    have : (Trie.nil.put D 3 (some (rW cells3 64 287 true))).isSome = true := by kernel_rfl
    rw [hp] at this; cases this
  | some t =>
    show t.get b = _
    rw [Trie.get_put _ _ _ _ _ hp b, Trie.get_nil]
theorem h0_get {b : Nat} {o : AObj} (e : h0.blks.get b = some o) : b = 3 ∧ o = rW cells3 64 287 true := by
  rw [show h0.blks.get b = blks0.get b from rfl, blks0_get] at e
  split at e
  · rename_i h; injection e with e; exact ⟨h, e.symm⟩
  · cases e
theorem begins : Go.Ev.Start C1 h0 := ⟨starts, by kernel_rfl, fun b o e => by rw [G1, (h0_get e).1]; decide⟩

theorem ok2 (E : Nat → Option Value) (W0 : World) (hb : IsBlind E W0 Tryz.prog 84) : COK E W0 C2 := by
  have o := ok E W0
  refine ⟨fun f fn h => ?_, fun f fn h hb' => ?_, fun t name g h v w => ?_, fun g s args h v h' hs hv σ w args' hR hvl => ?_⟩
  · rw [C2_fns] at h; rw [C2_P]; exact o.fns f fn h
  · rw [C2_fns] at h; exact o.names f fn h hb'
  · rw [C2_meth] at h; rw [C2_P]; exact o.meth t name g h v w
  · rw [C2_stub] at hs
    unfold stubs2 at hs
    cases h1 : Nat.beq g 6 with
    | true =>
      rw [h1, bIf_true] at hs
      have hs := Option.some.inj hs
      subst hs
      rw [Trie.beq_true h1]
      have hR1 : HR E C1.P C1.G W0 σ h w := by rw [C1_P, C1_G]; exact hR
      exact (closed_did (C := C1) ok1 lives begins hv hR1 hvl).congr C1_P C1_G
    | false =>
      rw [h1, bIf_false] at hs
      cases h2 : Nat.beq g 84 with
      | true =>
        rw [h2, bIf_true] at hs
        have hs := Option.some.inj hs
        subst hs
        rw [Trie.beq_true h2]
        exact blind_did (C := C2) (by rw [P2]; exact hb) hv hR hvl
      | false =>
        rw [h2, bIf_false] at hs
        have hR0 : HR E C0.P C0.G W0 σ h w := by rw [← C2_P, ← C2_G]; exact hR
        exact (o.stub g s args h v h' (by rw [C0_stub]; exact hs) hv σ w args' hR0 hvl).congr C2_P.symm C2_G.symm

theorem lives_calls {E : Nat → Option Value} {W : World} (hR : HR E Tryz.prog 4 W (σ0 4) h0 W) :
    Calls Tryz.prog 6 #[] W fun e w' => e = .returned (.bool true) ∧ ∃ w'', w'.Alike w'' ∧ RowKit.Below W.heap.size W w'' := by
  have hc := closed_true (C := C1) (ok1 E W) lives (σ := σ0 4) (by rw [P1, G1]; exact hR) (VL.nil (σ := σ0 4))
  rw [P1] at hc
  exact hc
theorem applet_calls {E : Nat → Option Value} {W : World} {v1 : Value} (hb : IsBlind E W Tryz.prog 84) (hR : HR E Tryz.prog 4 W (σ0 4) h0 W) (hE : E 1 = some v1) (h1 : v1.oneCell' = true) (k : Nat) (hk : k < 11) :
    Calls Tryz.prog 3 #[.int .i64 (.ofNat k), v1] W fun e w' => e = .returned (.bool true) ∧ ∃ w'', w'.Alike w'' ∧ RowKit.Below W.heap.size W w'' := by
  have hev := List.all_eq_true.1 applets k (List.mem_range.2 hk)
  have hc := closed_true (C := C2) (ok2 E W hb) hev (σ := σ0 4) (by rw [P2, G2]; exact hR) (VL.cons (VR.int (σ := σ0 4) .i64 (.ofNat k)) (VL.cons (.raw hE h1) VL.nil))
  rw [P2] at hc
  exact hc

end
end Go.Proofs.YtfchidckklhmpaaGreatDoor.Run
