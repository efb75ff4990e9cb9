/-
  No cell of these rows narrows 'for every input' (looked for: loops, veiled, ifaces, maps, wideKeys, modest, calm, conditions, laid).
  DERIVED. THE GIVEN ROWS OF THIS SEAT. 5 by the template 'for every input the law returns true; each argument reads behind the call as it read before'; 0 by the template 'total and deterministic' (their statements: YtcmicndmaaaknaaTotals.lean).
  GIVEN WITH THE SEED: the statements are not yours to turn. If you find one false, say at which input.
  Laid BY PROGRAM, IN A SANDBOX (cutbox-rows.mjs): the forced cells as the released guide's own fill.sh prints them over the translation 2436bd7907355cf5… (all of the seat's roots in one cut). By AI agents, Wed Nov 11 2026. No macro, syntax, notation, axiom, sorry.
-/
import Derived.Test.YtcmicndmaaaknaaChecked
import GoSem.Claim
import GoSem.ClaimJoined
import GoSem.ClaimMapViews
import Derived.JoinedTies
import Derived.KernelRfl
namespace Go.Proofs.Ytcmicndmaaaknaa
/- THE CELL 'sum', in the pinned program and in every row, IS THE sha256 OF THE DUMP (.gsa) THAT YtcmicndmaaaknaaProg.lean LOADS. Nothing in Lean hashes anything: it is a label: what it is worth is what the hold of that sum in a sandbox is worth. -/
noncomputable def Try.pinned : Pinned := { name := "ytcmicndmaaaknaa", sum := "2436bd7907355cf54b09dc98199867a6f0b404715e5b28764a67daf3b2cca401", checked := Try.checked }
namespace Rows
def none {H : Type} : Left H := { results := [], args := [] }

/-- 'tinsellaw09.GetoptParses': WHATEVER THE INPUT: true; the input reads as it did. -/
def getoptParsesSpec : ChangeSpec := { name := "getoptParses", fn := fun _ => fun
  | [d1, d2] => { results := [.lit (.bool true)], args := [d1, d2] }
  | _ => none }
def getoptParsesRow : OpenClaim := { program := "ytcmicndmaaaknaa", sum := "2436bd7907355cf54b09dc98199867a6f0b404715e5b28764a67daf3b2cca401", func := "tinsel/tinsellaw09.GetoptParses", spec := "getoptParses", inPlace := ["internal/bytealg.IndexByteString", "internal/bytealg.IndexString"], unfollowed := true, recurses := true, named := ["internal/bytealg.MaxLen"], apart := false }
def GetoptParsesSaid : Prop := getoptParsesRow.holds Try.pinned (OpenSpec.ofChange getoptParsesSpec)

/-- ITS FALSE NEIGHBOUR: 'it returns false'. Refute it at one input. -/
def getoptParsesWrong : ChangeSpec := { name := "getoptParses", fn := fun _ => fun
  | [d1, d2] => { results := [.lit (.bool false)], args := [d1, d2] }
  | _ => none }
def GetoptParsesWrongFalsely : Prop := getoptParsesRow.holds Try.pinned (OpenSpec.ofChange getoptParsesWrong)

/-- 'tinsellaw09.GetoptJoins': WHATEVER THE INPUT: true; the input reads as it did. -/
def getoptJoinsSpec : ChangeSpec := { name := "getoptJoins", fn := fun _ => fun
  | [d1, d2, d3] => { results := [.lit (.bool true)], args := [d1, d2, d3] }
  | _ => none }
def getoptJoinsRow : OpenClaim := { program := "ytcmicndmaaaknaa", sum := "2436bd7907355cf54b09dc98199867a6f0b404715e5b28764a67daf3b2cca401", func := "tinsel/tinsellaw09.GetoptJoins", spec := "getoptJoins", inPlace := ["internal/bytealg.IndexByteString", "internal/bytealg.IndexString"], unfollowed := true, recurses := true, named := ["internal/bytealg.MaxLen"], apart := false }
def GetoptJoinsSaid : Prop := getoptJoinsRow.holds Try.pinned (OpenSpec.ofChange getoptJoinsSpec)

/-- ITS FALSE NEIGHBOUR: 'it returns false'. Refute it at one input. -/
def getoptJoinsWrong : ChangeSpec := { name := "getoptJoins", fn := fun _ => fun
  | [d1, d2, d3] => { results := [.lit (.bool false)], args := [d1, d2, d3] }
  | _ => none }
def GetoptJoinsWrongFalsely : Prop := getoptJoinsRow.holds Try.pinned (OpenSpec.ofChange getoptJoinsWrong)

/-- 'tinsellaw09.GetoptBack': WHATEVER THE INPUT: true; the input reads as it did. -/
def getoptBackSpec : ChangeSpec := { name := "getoptBack", fn := fun _ => fun
  | [d1, d2] => { results := [.lit (.bool true)], args := [d1, d2] }
  | _ => none }
def getoptBackRow : OpenClaim := { program := "ytcmicndmaaaknaa", sum := "2436bd7907355cf54b09dc98199867a6f0b404715e5b28764a67daf3b2cca401", func := "tinsel/tinsellaw09.GetoptBack", spec := "getoptBack", inPlace := ["internal/bytealg.IndexByteString", "internal/bytealg.IndexString"], unfollowed := true, recurses := true, named := ["internal/bytealg.MaxLen"], apart := false }
def GetoptBackSaid : Prop := getoptBackRow.holds Try.pinned (OpenSpec.ofChange getoptBackSpec)

/-- ITS FALSE NEIGHBOUR: 'it returns false'. Refute it at one input. -/
def getoptBackWrong : ChangeSpec := { name := "getoptBack", fn := fun _ => fun
  | [d1, d2] => { results := [.lit (.bool false)], args := [d1, d2] }
  | _ => none }
def GetoptBackWrongFalsely : Prop := getoptBackRow.holds Try.pinned (OpenSpec.ofChange getoptBackWrong)

/-- 'tinsellaw09.GetoptAsks': WHATEVER THE INPUT: true; the input reads as it did. -/
def getoptAsksSpec : ChangeSpec := { name := "getoptAsks", fn := fun _ => fun
  | [d1, d2, d3] => { results := [.lit (.bool true)], args := [d1, d2, d3] }
  | _ => none }
def getoptAsksRow : OpenClaim := { program := "ytcmicndmaaaknaa", sum := "2436bd7907355cf54b09dc98199867a6f0b404715e5b28764a67daf3b2cca401", func := "tinsel/tinsellaw09.GetoptAsks", spec := "getoptAsks", inPlace := ["internal/bytealg.IndexByteString", "internal/bytealg.IndexString"], unfollowed := true, recurses := true, named := ["internal/bytealg.MaxLen"], apart := false }
def GetoptAsksSaid : Prop := getoptAsksRow.holds Try.pinned (OpenSpec.ofChange getoptAsksSpec)

/-- ITS FALSE NEIGHBOUR: 'it returns false'. Refute it at one input. -/
def getoptAsksWrong : ChangeSpec := { name := "getoptAsks", fn := fun _ => fun
  | [d1, d2, d3] => { results := [.lit (.bool false)], args := [d1, d2, d3] }
  | _ => none }
def GetoptAsksWrongFalsely : Prop := getoptAsksRow.holds Try.pinned (OpenSpec.ofChange getoptAsksWrong)

/-- 'tinsellaw09.GetoptSays': WHATEVER THE INPUT: true; the input reads as it did. -/
def getoptSaysSpec : ChangeSpec := { name := "getoptSays", fn := fun _ => fun
  | [d1, d2, d3] => { results := [.lit (.bool true)], args := [d1, d2, d3] }
  | _ => none }
def getoptSaysRow : OpenClaim := { program := "ytcmicndmaaaknaa", sum := "2436bd7907355cf54b09dc98199867a6f0b404715e5b28764a67daf3b2cca401", func := "tinsel/tinsellaw09.GetoptSays", spec := "getoptSays", inPlace := ["internal/abi.NoEscape", "internal/bytealg.MakeNoZero", "internal/bytealg.IndexByteString", "internal/bytealg.IndexString"], unfollowed := true, recurses := true, named := ["internal/bytealg.MaxLen"], apart := false }
def GetoptSaysSaid : Prop := getoptSaysRow.holds Try.pinned (OpenSpec.ofChange getoptSaysSpec)

/-- ITS FALSE NEIGHBOUR: 'it returns false'. Refute it at one input. -/
def getoptSaysWrong : ChangeSpec := { name := "getoptSays", fn := fun _ => fun
  | [d1, d2, d3] => { results := [.lit (.bool false)], args := [d1, d2, d3] }
  | _ => none }
def GetoptSaysWrongFalsely : Prop := getoptSaysRow.holds Try.pinned (OpenSpec.ofChange getoptSaysWrong)

/- THE SECOND FORM. 'bulk': how many values and letters a reading holds, each counted each time it is reached (what is shared counts as often as it is met; a slice's spare places count too). A statement '..UptoSaid' is the law's where the arguments, and the package variables that the reading takes, are together of bulk at most 1048576: NARROWER than '..Said'. Prove '..Said' where nothing that the law and all that it calls make is longer than what came in: it says more and counts as full. Else prove '..UptoSaid'. A law counts once. -/
mutual
def uptoBulk {H : Type} : DataW H → Nat
  | .lit (.string bytes) => bytes.length + 1
  | .lit _ => 1
  | .nil => 1
  | .ptr d => uptoBulk d + 1
  | .slice elems spare => uptoBulkAll elems + uptoBulkAll spare + 1
  | .agg parts => uptoBulkAll parts + 1
  | .iface _ d => uptoBulk d + 1
  | .map entries => uptoBulkEntries entries + 1
  | .held _ => 1
def uptoBulkAll {H : Type} : List (DataW H) → Nat
  | [] => 0
  | d :: r => uptoBulk d + uptoBulkAll r
def uptoBulkEntries {H : Type} : List (Lit × DataW H) → Nat
  | [] => 0
  | x :: r => uptoBulkEntry x + uptoBulkEntries r
def uptoBulkEntry {H : Type} : Lit × DataW H → Nat
  | (.string bytes, d) => bytes.length + uptoBulk d + 1
  | (_, d) => uptoBulk d + 1
 end
def uptoSmall : (H : Type) → List (DataW H) → Bool := fun _ ds => decide (uptoBulkAll ds ≤ 1048576)
def OpenSpec.upto (s : _root_.Go.ChangeSpec) : _root_.Go.OpenSpec := { _root_.Go.OpenSpec.ofChange s with cond := some uptoSmall }

/-- 'tinsellaw09.GetoptParses', WHERE WHAT IT READS IS OF BULK AT MOST 1048576: true; the input reads as it did. -/
def getoptParsesUptoRow : OpenClaim := { program := "ytcmicndmaaaknaa", sum := "2436bd7907355cf54b09dc98199867a6f0b404715e5b28764a67daf3b2cca401", func := "tinsel/tinsellaw09.GetoptParses", spec := "getoptParses", inPlace := ["internal/bytealg.IndexByteString", "internal/bytealg.IndexString"], unfollowed := true, recurses := true, named := ["internal/bytealg.MaxLen"], apart := false, narrowed := true }
def GetoptParsesUptoSaid : Prop := getoptParsesUptoRow.holds Try.pinned (OpenSpec.upto getoptParsesSpec)

/-- 'tinsellaw09.GetoptJoins', WHERE WHAT IT READS IS OF BULK AT MOST 1048576: true; the input reads as it did. -/
def getoptJoinsUptoRow : OpenClaim := { program := "ytcmicndmaaaknaa", sum := "2436bd7907355cf54b09dc98199867a6f0b404715e5b28764a67daf3b2cca401", func := "tinsel/tinsellaw09.GetoptJoins", spec := "getoptJoins", inPlace := ["internal/bytealg.IndexByteString", "internal/bytealg.IndexString"], unfollowed := true, recurses := true, named := ["internal/bytealg.MaxLen"], apart := false, narrowed := true }
def GetoptJoinsUptoSaid : Prop := getoptJoinsUptoRow.holds Try.pinned (OpenSpec.upto getoptJoinsSpec)

/-- 'tinsellaw09.GetoptBack', WHERE WHAT IT READS IS OF BULK AT MOST 1048576: true; the input reads as it did. -/
def getoptBackUptoRow : OpenClaim := { program := "ytcmicndmaaaknaa", sum := "2436bd7907355cf54b09dc98199867a6f0b404715e5b28764a67daf3b2cca401", func := "tinsel/tinsellaw09.GetoptBack", spec := "getoptBack", inPlace := ["internal/bytealg.IndexByteString", "internal/bytealg.IndexString"], unfollowed := true, recurses := true, named := ["internal/bytealg.MaxLen"], apart := false, narrowed := true }
def GetoptBackUptoSaid : Prop := getoptBackUptoRow.holds Try.pinned (OpenSpec.upto getoptBackSpec)

/-- 'tinsellaw09.GetoptAsks', WHERE WHAT IT READS IS OF BULK AT MOST 1048576: true; the input reads as it did. -/
def getoptAsksUptoRow : OpenClaim := { program := "ytcmicndmaaaknaa", sum := "2436bd7907355cf54b09dc98199867a6f0b404715e5b28764a67daf3b2cca401", func := "tinsel/tinsellaw09.GetoptAsks", spec := "getoptAsks", inPlace := ["internal/bytealg.IndexByteString", "internal/bytealg.IndexString"], unfollowed := true, recurses := true, named := ["internal/bytealg.MaxLen"], apart := false, narrowed := true }
def GetoptAsksUptoSaid : Prop := getoptAsksUptoRow.holds Try.pinned (OpenSpec.upto getoptAsksSpec)

/-- 'tinsellaw09.GetoptSays', WHERE WHAT IT READS IS OF BULK AT MOST 1048576: true; the input reads as it did. -/
def getoptSaysUptoRow : OpenClaim := { program := "ytcmicndmaaaknaa", sum := "2436bd7907355cf54b09dc98199867a6f0b404715e5b28764a67daf3b2cca401", func := "tinsel/tinsellaw09.GetoptSays", spec := "getoptSays", inPlace := ["internal/abi.NoEscape", "internal/bytealg.MakeNoZero", "internal/bytealg.IndexByteString", "internal/bytealg.IndexString"], unfollowed := true, recurses := true, named := ["internal/bytealg.MaxLen"], apart := false, narrowed := true }
def GetoptSaysUptoSaid : Prop := getoptSaysUptoRow.holds Try.pinned (OpenSpec.upto getoptSaysSpec)

end Rows
end Go.Proofs.Ytcmicndmaaaknaa
