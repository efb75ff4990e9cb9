/- The context of AttrNone's run: the program's functions and methods; what stands for IndexByte and strings.Join. -/
import Derived.Test.YtfchidckklhmpaaGreatDoorEvS
import Derived.Test.YtfchidckklhmpaaGreatDoorJoin
import Derived.Test.YtfchidckklhmpaaGreatDoorProg
import Derived.KernelRfl
namespace Go.Proofs.YtfchidckklhmpaaGreatDoor.Run
open Go Go.Ev Go.Proofs
noncomputable section
set_option linter.unusedVariables false

def stubs (f : FuncId) : Option (List Value → AH → Option (Value × AH)) :=
  bIf (Nat.beq f 442) (some (idxStub Tryz.prog)) (bIf (Nat.beq f 427) (some (idxStub Tryz.prog)) (bIf (Nat.beq f 307) (some (joinStub Tryz.prog)) none))
def meths (t : TypeId) (name : String) : Option FuncId := bIf (Nat.beq t 216) (bIf (decide (name = "tinsel/desc.write")) (some 469) none) none
def C0 : Ctx := { P := Tryz.prog, G := 4, fns := fnsOf Tryz.prog, meth := meths, stub := stubs }

theorem idx442 : IsIdx Tryz.prog 442 := ⟨Tryz.f442, Tryz.func442, by kernel_rfl, by kernel_rfl, by kernel_rfl, by kernel_rfl⟩
theorem idx427 : IsIdx Tryz.prog 427 := ⟨Tryz.f427, Tryz.func427, by kernel_rfl, by kernel_rfl, by kernel_rfl, by kernel_rfl⟩
theorem join307 : IsJoin Tryz.prog 307 :=
  ⟨⟨Tryz.f307, Tryz.func307, by kernel_rfl, by kernel_rfl⟩, fun bk o c xs sep w h1 h2 h3 h4 h5 => Tryz.strings_Join bk o c xs sep w h1 h2 h3 h4 h5⟩
set_option maxRecDepth 1000000 in
theorem names : namesOK Tryz.prog = true := by decide +kernel
theorem meth216 (v : Value) (w : World) : (method (Tryz.prog.types.size + Made.depth) 216 v "tinsel/desc.write").run Tryz.prog w = .ok (469, v) w := by kernel_rfl

theorem C0_fns : C0.fns = fnsOf Tryz.prog := by kernel_rfl
theorem C0_meth : C0.meth = meths := by kernel_rfl
theorem C0_stub : C0.stub = stubs := by kernel_rfl
theorem C0_P : C0.P = Tryz.prog := by kernel_rfl
theorem fns0 (f : FuncId) (fn : Func) (h : C0.fns.get f = some fn) : C0.P.funcs[f]? = some fn := by
  rw [C0_fns] at h
  rw [C0_P]
  exact fnsOf_ok (P := Tryz.prog) h
theorem names0 (f : FuncId) (fn : Func) (h : C0.fns.get f = some fn) (hb : fn.body.isSome = true) : (fn.name == "runtime.NumGoroutine") = false := namesOK_ok (P := Tryz.prog) names (fns0 f fn h) hb

theorem ok (E : Nat → Option Value) (W0 : World) : COK E W0 C0 := by
  refine ⟨fns0, names0, fun t name g h v w => ?_, fun g s args h v h' hs hv σ w args' hR hvl => ?_⟩
  · rw [C0_meth] at h
    unfold meths at h
    rw [C0_P]
    cases ht : Nat.beq t 216 with
    | false => rw [ht] at h; cases h
    | true =>
      rw [ht] at h
      by_cases hn : name = "tinsel/desc.write"
      · rw [decide_eq_true hn] at h
        rw [bIf_true, bIf_true] at h
        rw [← Option.some.inj h, Trie.beq_true ht, hn]
        exact meth216 v w
      · rw [decide_eq_false hn] at h; cases h
  · rw [C0_stub] at hs
    unfold stubs at hs
    cases h1 : Nat.beq g 442 with
    | true =>
      rw [h1] at hs
      have hs : some (idxStub Tryz.prog) = some s := hs
      injection hs with hs; subst hs
      rw [Trie.beq_true h1]
      exact idx_did (C := C0) idx442 hv hR hvl
    | false =>
      rw [h1] at hs
      cases h2 : Nat.beq g 427 with
      | true =>
        rw [h2] at hs
        have hs : some (idxStub Tryz.prog) = some s := hs
        injection hs with hs; subst hs
        rw [Trie.beq_true h2]
        exact idx_did (C := C0) idx427 hv hR hvl
      | false =>
        rw [h2] at hs
        cases h3 : Nat.beq g 307 with
        | true =>
          rw [h3] at hs
          have hs : some (joinStub Tryz.prog) = some s := hs
          injection hs with hs; subst hs
          rw [Trie.beq_true h3]
          exact join_did (C := C0) join307 hv hR hvl
        | false => rw [h3] at hs; cases hs

end
end Go.Proofs.YtfchidckklhmpaaGreatDoor.Run
