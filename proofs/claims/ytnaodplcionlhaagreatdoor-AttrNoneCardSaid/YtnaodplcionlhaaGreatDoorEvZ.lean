/- Ev: a call that answers true, out of what was reckoned. -/
import Derived.Test.YtnaodplcionlhaaGreatDoorEvY
import Derived.ChangeAlike
namespace Go.Ev
noncomputable section
set_option linter.unusedVariables false
variable {E : Nat → Option Value} {W0 : World} {C : Ctx}

def isTrue : Option Res → Bool
  | some (.ret (.bool true) _) => true
  | _ => false
theorem closed_true (ok : COK E W0 C) {n : Nat} {f : FuncId} {args : List Value} {h0 : AH} (h : isTrue (ev C (evDraw C) n (.call f args h0)) = true) {σ : Emb} (hR : HR E C.P C.G W0 σ h0 W0) {args' : List Value} (hv : VL E σ args args') :
    Calls C.P f args'.toArray W0 fun e w' => e = .returned (.bool true) ∧ ∃ w'', w'.Alike w'' ∧ RowKit.Below W0.heap.size W0 w'' := by
  unfold isTrue at h
  split at h
  · rename_i h' hev
    obtain ⟨hb, hc⟩ := evd_sound ok n _ _ hev σ W0 args' hR hv
    refine callsIn_wide.1 (hc.mono fun e w' p => ?_)
    obtain ⟨σ', v', rfl, _, _, hvv, hR'⟩ := p
    obtain rfl := hvv.bool_inv
    exact ⟨rfl, { W0 with heap := w'.heap }, ⟨rfl, hR'.still.1, hR'.still.2⟩, ⟨rfl, rfl, rfl, hR'.old.1, hR'.old.2⟩⟩
  · cases h

/-- the names of the program's own variables -/
def σ0 (G : Nat) : Emb := ⟨fun b => if b < G then some b else none, fun _ => 0⟩
/-- the functions of a program, to be looked up fast -/
def fnsOf (P : Program) : Trie Func := match Trie.nil.puts D 0 P.funcs.toList with
  | some t => t
  | none => .nil
theorem fnsOf_ok {P : Program} {f : FuncId} {fn : Func} (h : (fnsOf P).get f = some fn) : P.funcs[f]? = some fn := by
  unfold fnsOf at h
  cases hp : Trie.nil.puts D 0 P.funcs.toList with
  | none => rw [hp] at h; cases h
  | some tr =>
    rw [hp] at h
    have h' : tr.get f = some fn := h
    rw [Trie.get_puts _ _ _ _ _ hp f] at h'
    split at h'
    · simpa using h'
    · rw [Trie.get_nil] at h'; cases h'
def namesOK (P : Program) : Bool := P.funcs.toList.all fun fn => fn.body.isNone || !(fn.name == "runtime.NumGoroutine")
theorem namesOK_ok {P : Program} (h : namesOK P = true) {f : FuncId} {fn : Func} (hf : P.funcs[f]? = some fn) (hb : fn.body.isSome = true) : (fn.name == "runtime.NumGoroutine") = false := by
  have := List.all_eq_true.1 h fn (by
    have := Array.mem_of_getElem? hf
    simpa using this)
  cases hbb : fn.body with
  | none => rw [hbb] at hb; cases hb
  | some c => rw [hbb] at this; simpa using this

end
end Go.Ev
