/-
  No cell of these rows narrows 'for every input' (looked for: loops, veiled, ifaces, maps, wideKeys, modest, calm, conditions, laid).
  DERIVED. THE GIVEN ROWS OF THIS SEAT. 9 by the template 'for every input the law returns true; each argument reads behind the call as it read before'; 0 by the template 'total and deterministic' (their statements: YtjkapifbinmjhaaTotals.lean).
  GIVEN WITH THE SEED: the statements are not yours to turn. If you find one false, say at which input.
  Laid BY PROGRAM, IN A SANDBOX (cutbox-rows.mjs): the forced cells as the released guide's own fill.sh prints them over the translation b208476c73ae365d… (all of the seat's roots in one cut). By AI agents, Wed Nov 11 2026. No macro, syntax, notation, axiom, sorry.
-/
import Derived.Test.YtjkapifbinmjhaaChecked
import GoSem.Claim
import GoSem.ClaimJoined
import GoSem.ClaimMapViews
import Derived.JoinedTies
import Derived.KernelRfl
namespace Go.Proofs.Ytjkapifbinmjhaa
/- THE CELL 'sum', in the pinned program and in every row, IS THE sha256 OF THE DUMP (.gsa) THAT YtjkapifbinmjhaaProg.lean LOADS. Nothing in Lean hashes anything: it is a label: what it is worth is what the hold of that sum in a sandbox is worth. -/
noncomputable def Try.pinned : Pinned := { name := "ytjkapifbinmjhaa", sum := "b208476c73ae365de1f9cc6027a80afd9909f901b1c5889e15ec1c8ca57e2162", checked := Try.checked }
namespace Rows
def none {H : Type} : Left H := { results := [], args := [] }

/-- 'pendulumlaw25.LinkScript': WHATEVER THE INPUT: true; the input reads as it did. -/
def linkScriptSpec : ChangeSpec := { name := "linkScript", fn := fun _ => fun
  | [d1, d2, d3] => { results := [.lit (.bool true)], args := [d1, d2, d3] }
  | _ => none }
def linkScriptRow : OpenClaim := { program := "ytjkapifbinmjhaa", sum := "b208476c73ae365de1f9cc6027a80afd9909f901b1c5889e15ec1c8ca57e2162", func := "pendulum/pendulumlaw25.LinkScript", spec := "linkScript", unfollowed := true, recurses := true, plainKeys := false, apart := false }
def LinkScriptSaid : Prop := linkScriptRow.holds Try.pinned (OpenSpec.ofChange linkScriptSpec)

/-- ITS FALSE NEIGHBOUR: 'it returns false'. Refute it at one input. -/
def linkScriptWrong : ChangeSpec := { name := "linkScript", fn := fun _ => fun
  | [d1, d2, d3] => { results := [.lit (.bool false)], args := [d1, d2, d3] }
  | _ => none }
def LinkScriptWrongFalsely : Prop := linkScriptRow.holds Try.pinned (OpenSpec.ofChange linkScriptWrong)

/-- 'pendulumlaw20.AyTones': WHATEVER THE INPUT: true; the input reads as it did. -/
def ayTonesSpec : ChangeSpec := { name := "ayTones", fn := fun _ => fun
  | [d1, d2, d3, d4, d5] => { results := [.lit (.bool true)], args := [d1, d2, d3, d4, d5] }
  | _ => none }
def ayTonesRow : OpenClaim := { program := "ytjkapifbinmjhaa", sum := "b208476c73ae365de1f9cc6027a80afd9909f901b1c5889e15ec1c8ca57e2162", func := "pendulum/pendulumlaw20.AyTones", spec := "ayTones", plainKeys := false, apart := false }
def AyTonesSaid : Prop := ayTonesRow.holds Try.pinned (OpenSpec.ofChange ayTonesSpec)

/-- ITS FALSE NEIGHBOUR: 'it returns false'. Refute it at one input. -/
def ayTonesWrong : ChangeSpec := { name := "ayTones", fn := fun _ => fun
  | [d1, d2, d3, d4, d5] => { results := [.lit (.bool false)], args := [d1, d2, d3, d4, d5] }
  | _ => none }
def AyTonesWrongFalsely : Prop := ayTonesRow.holds Try.pinned (OpenSpec.ofChange ayTonesWrong)

/-- 'pendulumlaw22.FdcBack': WHATEVER THE INPUT: true; the input reads as it did. -/
def fdcBackSpec : ChangeSpec := { name := "fdcBack", fn := fun _ => fun
  | [d1, d2, d3, d4] => { results := [.lit (.bool true)], args := [d1, d2, d3, d4] }
  | _ => none }
def fdcBackRow : OpenClaim := { program := "ytjkapifbinmjhaa", sum := "b208476c73ae365de1f9cc6027a80afd9909f901b1c5889e15ec1c8ca57e2162", func := "pendulum/pendulumlaw22.FdcBack", spec := "fdcBack", unfollowed := true, recurses := true, plainKeys := false, apart := false }
def FdcBackSaid : Prop := fdcBackRow.holds Try.pinned (OpenSpec.ofChange fdcBackSpec)

/-- ITS FALSE NEIGHBOUR: 'it returns false'. Refute it at one input. -/
def fdcBackWrong : ChangeSpec := { name := "fdcBack", fn := fun _ => fun
  | [d1, d2, d3, d4] => { results := [.lit (.bool false)], args := [d1, d2, d3, d4] }
  | _ => none }
def FdcBackWrongFalsely : Prop := fdcBackRow.holds Try.pinned (OpenSpec.ofChange fdcBackWrong)

/-- 'pendulumlaw20.AyScript': WHATEVER THE INPUT: true; the input reads as it did. -/
def ayScriptSpec : ChangeSpec := { name := "ayScript", fn := fun _ => fun
  | [d1, d2, d3, d4, d5, d6] => { results := [.lit (.bool true)], args := [d1, d2, d3, d4, d5, d6] }
  | _ => none }
def ayScriptRow : OpenClaim := { program := "ytjkapifbinmjhaa", sum := "b208476c73ae365de1f9cc6027a80afd9909f901b1c5889e15ec1c8ca57e2162", func := "pendulum/pendulumlaw20.AyScript", spec := "ayScript", plainKeys := false, apart := false }
def AyScriptSaid : Prop := ayScriptRow.holds Try.pinned (OpenSpec.ofChange ayScriptSpec)

/-- ITS FALSE NEIGHBOUR: 'it returns false'. Refute it at one input. -/
def ayScriptWrong : ChangeSpec := { name := "ayScript", fn := fun _ => fun
  | [d1, d2, d3, d4, d5, d6] => { results := [.lit (.bool false)], args := [d1, d2, d3, d4, d5, d6] }
  | _ => none }
def AyScriptWrongFalsely : Prop := ayScriptRow.holds Try.pinned (OpenSpec.ofChange ayScriptWrong)

/-- 'pendulumlaw04.MergeParts': WHATEVER THE INPUT: true; the input reads as it did. -/
def mergePartsSpec : ChangeSpec := { name := "mergeParts", fn := fun _ => fun
  | [d1, d2] => { results := [.lit (.bool true)], args := [d1, d2] }
  | _ => none }
def mergePartsRow : OpenClaim := { program := "ytjkapifbinmjhaa", sum := "b208476c73ae365de1f9cc6027a80afd9909f901b1c5889e15ec1c8ca57e2162", func := "pendulum/pendulumlaw04.MergeParts", spec := "mergeParts", unfollowed := true, recurses := true, plainKeys := false, apart := false }
def MergePartsSaid : Prop := mergePartsRow.holds Try.pinned (OpenSpec.ofChange mergePartsSpec)

/-- ITS FALSE NEIGHBOUR: 'it returns false'. Refute it at one input. -/
def mergePartsWrong : ChangeSpec := { name := "mergeParts", fn := fun _ => fun
  | [d1, d2] => { results := [.lit (.bool false)], args := [d1, d2] }
  | _ => none }
def MergePartsWrongFalsely : Prop := mergePartsRow.holds Try.pinned (OpenSpec.ofChange mergePartsWrong)

/-- 'pendulumlaw17.KeysRows': WHATEVER THE INPUT: true; the input reads as it did. -/
def keysRowsSpec : ChangeSpec := { name := "keysRows", fn := fun _ => fun
  | [d1, d2, d3] => { results := [.lit (.bool true)], args := [d1, d2, d3] }
  | _ => none }
def keysRowsRow : OpenClaim := { program := "ytjkapifbinmjhaa", sum := "b208476c73ae365de1f9cc6027a80afd9909f901b1c5889e15ec1c8ca57e2162", func := "pendulum/pendulumlaw17.KeysRows", spec := "keysRows", unfollowed := true, recurses := true, plainKeys := false, apart := false }
def KeysRowsSaid : Prop := keysRowsRow.holds Try.pinned (OpenSpec.ofChange keysRowsSpec)

/-- ITS FALSE NEIGHBOUR: 'it returns false'. Refute it at one input. -/
def keysRowsWrong : ChangeSpec := { name := "keysRows", fn := fun _ => fun
  | [d1, d2, d3] => { results := [.lit (.bool false)], args := [d1, d2, d3] }
  | _ => none }
def KeysRowsWrongFalsely : Prop := keysRowsRow.holds Try.pinned (OpenSpec.ofChange keysRowsWrong)

/-- 'pendulumlaw17.KeysPress': WHATEVER THE INPUT: true; the input reads as it did. -/
def keysPressSpec : ChangeSpec := { name := "keysPress", fn := fun _ => fun
  | [d1, d2, d3] => { results := [.lit (.bool true)], args := [d1, d2, d3] }
  | _ => none }
def keysPressRow : OpenClaim := { program := "ytjkapifbinmjhaa", sum := "b208476c73ae365de1f9cc6027a80afd9909f901b1c5889e15ec1c8ca57e2162", func := "pendulum/pendulumlaw17.KeysPress", spec := "keysPress", unfollowed := true, recurses := true, plainKeys := false, apart := false }
def KeysPressSaid : Prop := keysPressRow.holds Try.pinned (OpenSpec.ofChange keysPressSpec)

/-- ITS FALSE NEIGHBOUR: 'it returns false'. Refute it at one input. -/
def keysPressWrong : ChangeSpec := { name := "keysPress", fn := fun _ => fun
  | [d1, d2, d3] => { results := [.lit (.bool false)], args := [d1, d2, d3] }
  | _ => none }
def KeysPressWrongFalsely : Prop := keysPressRow.holds Try.pinned (OpenSpec.ofChange keysPressWrong)

/-- 'pendulumlaw17.KeysNames': WHATEVER THE INPUT: true; the input reads as it did. -/
def keysNamesSpec : ChangeSpec := { name := "keysNames", fn := fun _ => fun
  | [] => { results := [.lit (.bool true)], args := [] }
  | _ => none }
def keysNamesRow : OpenClaim := { program := "ytjkapifbinmjhaa", sum := "b208476c73ae365de1f9cc6027a80afd9909f901b1c5889e15ec1c8ca57e2162", func := "pendulum/pendulumlaw17.KeysNames", spec := "keysNames", unfollowed := true, recurses := true, plainKeys := false, apart := false }
def KeysNamesSaid : Prop := keysNamesRow.holds Try.pinned (OpenSpec.ofChange keysNamesSpec)

/-- ITS FALSE NEIGHBOUR: 'it returns false'. Refute it at one input. -/
def keysNamesWrong : ChangeSpec := { name := "keysNames", fn := fun _ => fun
  | [] => { results := [.lit (.bool false)], args := [] }
  | _ => none }
def KeysNamesWrongFalsely : Prop := keysNamesRow.holds Try.pinned (OpenSpec.ofChange keysNamesWrong)

/-- 'pendulumlaw17.KeysBack': WHATEVER THE INPUT: true; the input reads as it did. -/
def keysBackSpec : ChangeSpec := { name := "keysBack", fn := fun _ => fun
  | [d1, d2] => { results := [.lit (.bool true)], args := [d1, d2] }
  | _ => none }
def keysBackRow : OpenClaim := { program := "ytjkapifbinmjhaa", sum := "b208476c73ae365de1f9cc6027a80afd9909f901b1c5889e15ec1c8ca57e2162", func := "pendulum/pendulumlaw17.KeysBack", spec := "keysBack", unfollowed := true, recurses := true, plainKeys := false, apart := false }
def KeysBackSaid : Prop := keysBackRow.holds Try.pinned (OpenSpec.ofChange keysBackSpec)

/-- ITS FALSE NEIGHBOUR: 'it returns false'. Refute it at one input. -/
def keysBackWrong : ChangeSpec := { name := "keysBack", fn := fun _ => fun
  | [d1, d2] => { results := [.lit (.bool false)], args := [d1, d2] }
  | _ => none }
def KeysBackWrongFalsely : Prop := keysBackRow.holds Try.pinned (OpenSpec.ofChange keysBackWrong)

/- THE SECOND FORM. 'bulk': how many values and letters a reading holds, each counted each time it is reached (what is shared counts as often as it is met; a slice's spare places count too). A statement '..UptoSaid' is the law's where the arguments, and the package variables that the reading takes, are together of bulk at most 1048576: NARROWER than '..Said'. Prove '..Said' where nothing that the law and all that it calls make is longer than what came in: it says more and counts as full. Else prove '..UptoSaid'. A law counts once. -/
mutual
def uptoBulk {H : Type} : DataW H → Nat
  | .lit (.string bytes) => bytes.length + 1
  | .lit _ => 1
  | .nil => 1
  | .ptr d => uptoBulk d + 1
  | .slice elems spare => uptoBulkAll elems + uptoBulkAll spare + 1
  | .agg parts => uptoBulkAll parts + 1
  | .iface _ d => uptoBulk d + 1
  | .map entries => uptoBulkEntries entries + 1
  | .held _ => 1
def uptoBulkAll {H : Type} : List (DataW H) → Nat
  | [] => 0
  | d :: r => uptoBulk d + uptoBulkAll r
def uptoBulkEntries {H : Type} : List (Lit × DataW H) → Nat
  | [] => 0
  | x :: r => uptoBulkEntry x + uptoBulkEntries r
def uptoBulkEntry {H : Type} : Lit × DataW H → Nat
  | (.string bytes, d) => bytes.length + uptoBulk d + 1
  | (_, d) => uptoBulk d + 1
 end
def uptoSmall : (H : Type) → List (DataW H) → Bool := fun _ ds => decide (uptoBulkAll ds ≤ 1048576)
def OpenSpec.upto (s : _root_.Go.ChangeSpec) : _root_.Go.OpenSpec := { _root_.Go.OpenSpec.ofChange s with cond := some uptoSmall }

/-- 'pendulumlaw25.LinkScript', WHERE WHAT IT READS IS OF BULK AT MOST 1048576: true; the input reads as it did. -/
def linkScriptUptoRow : OpenClaim := { program := "ytjkapifbinmjhaa", sum := "b208476c73ae365de1f9cc6027a80afd9909f901b1c5889e15ec1c8ca57e2162", func := "pendulum/pendulumlaw25.LinkScript", spec := "linkScript", unfollowed := true, recurses := true, plainKeys := false, apart := false, narrowed := true }
def LinkScriptUptoSaid : Prop := linkScriptUptoRow.holds Try.pinned (OpenSpec.upto linkScriptSpec)

/-- 'pendulumlaw20.AyTones', WHERE WHAT IT READS IS OF BULK AT MOST 1048576: true; the input reads as it did. -/
def ayTonesUptoRow : OpenClaim := { program := "ytjkapifbinmjhaa", sum := "b208476c73ae365de1f9cc6027a80afd9909f901b1c5889e15ec1c8ca57e2162", func := "pendulum/pendulumlaw20.AyTones", spec := "ayTones", plainKeys := false, apart := false, narrowed := true }
def AyTonesUptoSaid : Prop := ayTonesUptoRow.holds Try.pinned (OpenSpec.upto ayTonesSpec)

/-- 'pendulumlaw22.FdcBack', WHERE WHAT IT READS IS OF BULK AT MOST 1048576: true; the input reads as it did. -/
def fdcBackUptoRow : OpenClaim := { program := "ytjkapifbinmjhaa", sum := "b208476c73ae365de1f9cc6027a80afd9909f901b1c5889e15ec1c8ca57e2162", func := "pendulum/pendulumlaw22.FdcBack", spec := "fdcBack", unfollowed := true, recurses := true, plainKeys := false, apart := false, narrowed := true }
def FdcBackUptoSaid : Prop := fdcBackUptoRow.holds Try.pinned (OpenSpec.upto fdcBackSpec)

/-- 'pendulumlaw20.AyScript', WHERE WHAT IT READS IS OF BULK AT MOST 1048576: true; the input reads as it did. -/
def ayScriptUptoRow : OpenClaim := { program := "ytjkapifbinmjhaa", sum := "b208476c73ae365de1f9cc6027a80afd9909f901b1c5889e15ec1c8ca57e2162", func := "pendulum/pendulumlaw20.AyScript", spec := "ayScript", plainKeys := false, apart := false, narrowed := true }
def AyScriptUptoSaid : Prop := ayScriptUptoRow.holds Try.pinned (OpenSpec.upto ayScriptSpec)

/-- 'pendulumlaw04.MergeParts', WHERE WHAT IT READS IS OF BULK AT MOST 1048576: true; the input reads as it did. -/
def mergePartsUptoRow : OpenClaim := { program := "ytjkapifbinmjhaa", sum := "b208476c73ae365de1f9cc6027a80afd9909f901b1c5889e15ec1c8ca57e2162", func := "pendulum/pendulumlaw04.MergeParts", spec := "mergeParts", unfollowed := true, recurses := true, plainKeys := false, apart := false, narrowed := true }
def MergePartsUptoSaid : Prop := mergePartsUptoRow.holds Try.pinned (OpenSpec.upto mergePartsSpec)

/-- 'pendulumlaw17.KeysRows', WHERE WHAT IT READS IS OF BULK AT MOST 1048576: true; the input reads as it did. -/
def keysRowsUptoRow : OpenClaim := { program := "ytjkapifbinmjhaa", sum := "b208476c73ae365de1f9cc6027a80afd9909f901b1c5889e15ec1c8ca57e2162", func := "pendulum/pendulumlaw17.KeysRows", spec := "keysRows", unfollowed := true, recurses := true, plainKeys := false, apart := false, narrowed := true }
def KeysRowsUptoSaid : Prop := keysRowsUptoRow.holds Try.pinned (OpenSpec.upto keysRowsSpec)

/-- 'pendulumlaw17.KeysPress', WHERE WHAT IT READS IS OF BULK AT MOST 1048576: true; the input reads as it did. -/
def keysPressUptoRow : OpenClaim := { program := "ytjkapifbinmjhaa", sum := "b208476c73ae365de1f9cc6027a80afd9909f901b1c5889e15ec1c8ca57e2162", func := "pendulum/pendulumlaw17.KeysPress", spec := "keysPress", unfollowed := true, recurses := true, plainKeys := false, apart := false, narrowed := true }
def KeysPressUptoSaid : Prop := keysPressUptoRow.holds Try.pinned (OpenSpec.upto keysPressSpec)

/-- 'pendulumlaw17.KeysNames', WHERE WHAT IT READS IS OF BULK AT MOST 1048576: true; the input reads as it did. -/
def keysNamesUptoRow : OpenClaim := { program := "ytjkapifbinmjhaa", sum := "b208476c73ae365de1f9cc6027a80afd9909f901b1c5889e15ec1c8ca57e2162", func := "pendulum/pendulumlaw17.KeysNames", spec := "keysNames", unfollowed := true, recurses := true, plainKeys := false, apart := false, narrowed := true }
def KeysNamesUptoSaid : Prop := keysNamesUptoRow.holds Try.pinned (OpenSpec.upto keysNamesSpec)

/-- 'pendulumlaw17.KeysBack', WHERE WHAT IT READS IS OF BULK AT MOST 1048576: true; the input reads as it did. -/
def keysBackUptoRow : OpenClaim := { program := "ytjkapifbinmjhaa", sum := "b208476c73ae365de1f9cc6027a80afd9909f901b1c5889e15ec1c8ca57e2162", func := "pendulum/pendulumlaw17.KeysBack", spec := "keysBack", unfollowed := true, recurses := true, plainKeys := false, apart := false, narrowed := true }
def KeysBackUptoSaid : Prop := keysBackUptoRow.holds Try.pinned (OpenSpec.upto keysBackSpec)

end Rows
end Go.Proofs.Ytjkapifbinmjhaa
