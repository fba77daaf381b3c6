/-
  No cell of these rows narrows 'for every input' (looked for: loops, veiled, ifaces, maps, wideKeys, modest, calm, conditions, laid).
  DERIVED. THE GIVEN ROWS OF THIS SEAT. 5 by the template 'for every input the law returns true; each argument reads behind the call as it read before'; 0 by the template 'total and deterministic' (their statements: YtigilihpofafoaaTotals.lean).
  GIVEN WITH THE SEED: the statements are not yours to turn. If you find one false, say at which input.
  Laid BY PROGRAM, IN A SANDBOX (cutbox-rows.mjs): the forced cells as the released guide's own fill.sh prints them over the translation 9b853d200e9ec4f6… (all of the seat's roots in one cut). By AI agents, Wed Nov 11 2026. No macro, syntax, notation, axiom, sorry.
-/
import Derived.Test.YtigilihpofafoaaChecked
import GoSem.Claim
import GoSem.ClaimJoined
import GoSem.ClaimMapViews
import Derived.JoinedTies
import Derived.KernelRfl
namespace Go.Proofs.Ytigilihpofafoaa
/- THE CELL 'sum', in the pinned program and in every row, IS THE sha256 OF THE DUMP (.gsa) THAT YtigilihpofafoaaProg.lean LOADS. Nothing in Lean hashes anything: it is a label: what it is worth is what the hold of that sum in a sandbox is worth. -/
noncomputable def Try.pinned : Pinned := { name := "ytigilihpofafoaa", sum := "9b853d200e9ec4f66a9697febc5880d8601f70942ca7c6e4a74dd2710e9977cf", checked := Try.checked }
namespace Rows
def none {H : Type} : Left H := { results := [], args := [] }

/-- 'seisinlaw20.ReplTells': WHATEVER THE INPUT: true; the input reads as it did. -/
def replTellsSpec : ChangeSpec := { name := "replTells", fn := fun _ => fun
  | [d1, d2, d3] => { results := [.lit (.bool true)], args := [d1, d2, d3] }
  | _ => none }
def replTellsRow : OpenClaim := { program := "ytigilihpofafoaa", sum := "9b853d200e9ec4f66a9697febc5880d8601f70942ca7c6e4a74dd2710e9977cf", func := "seisin/seisinlaw20.ReplTells", spec := "replTells", unfollowed := true, recurses := true, apart := false }
def ReplTellsSaid : Prop := replTellsRow.holds Try.pinned (OpenSpec.ofChange replTellsSpec)

/-- ITS FALSE NEIGHBOUR: 'it returns false'. Refute it at one input. -/
def replTellsWrong : ChangeSpec := { name := "replTells", fn := fun _ => fun
  | [d1, d2, d3] => { results := [.lit (.bool false)], args := [d1, d2, d3] }
  | _ => none }
def ReplTellsWrongFalsely : Prop := replTellsRow.holds Try.pinned (OpenSpec.ofChange replTellsWrong)

/-- 'seisinlaw20.ReplEnds': WHATEVER THE INPUT: true; the input reads as it did. -/
def replEndsSpec : ChangeSpec := { name := "replEnds", fn := fun _ => fun
  | [] => { results := [.lit (.bool true)], args := [] }
  | _ => none }
def replEndsRow : OpenClaim := { program := "ytigilihpofafoaa", sum := "9b853d200e9ec4f66a9697febc5880d8601f70942ca7c6e4a74dd2710e9977cf", func := "seisin/seisinlaw20.ReplEnds", spec := "replEnds", unfollowed := true, recurses := true, apart := false }
def ReplEndsSaid : Prop := replEndsRow.holds Try.pinned (OpenSpec.ofChange replEndsSpec)

/-- ITS FALSE NEIGHBOUR: 'it returns false'. Refute it at one input. -/
def replEndsWrong : ChangeSpec := { name := "replEnds", fn := fun _ => fun
  | [] => { results := [.lit (.bool false)], args := [] }
  | _ => none }
def ReplEndsWrongFalsely : Prop := replEndsRow.holds Try.pinned (OpenSpec.ofChange replEndsWrong)

/-- 'seisinlaw20.ReplVictim': WHATEVER THE INPUT: true; the input reads as it did. -/
def replVictimSpec : ChangeSpec := { name := "replVictim", fn := fun _ => fun
  | [d1, d2, d3, d4] => { results := [.lit (.bool true)], args := [d1, d2, d3, d4] }
  | _ => none }
def replVictimRow : OpenClaim := { program := "ytigilihpofafoaa", sum := "9b853d200e9ec4f66a9697febc5880d8601f70942ca7c6e4a74dd2710e9977cf", func := "seisin/seisinlaw20.ReplVictim", spec := "replVictim", unfollowed := true, recurses := true, apart := false }
def ReplVictimSaid : Prop := replVictimRow.holds Try.pinned (OpenSpec.ofChange replVictimSpec)

/-- ITS FALSE NEIGHBOUR: 'it returns false'. Refute it at one input. -/
def replVictimWrong : ChangeSpec := { name := "replVictim", fn := fun _ => fun
  | [d1, d2, d3, d4] => { results := [.lit (.bool false)], args := [d1, d2, d3, d4] }
  | _ => none }
def ReplVictimWrongFalsely : Prop := replVictimRow.holds Try.pinned (OpenSpec.ofChange replVictimWrong)

/-- 'seisinlaw20.ReplOrder': WHATEVER THE INPUT: true; the input reads as it did. -/
def replOrderSpec : ChangeSpec := { name := "replOrder", fn := fun _ => fun
  | [d1, d2, d3] => { results := [.lit (.bool true)], args := [d1, d2, d3] }
  | _ => none }
def replOrderRow : OpenClaim := { program := "ytigilihpofafoaa", sum := "9b853d200e9ec4f66a9697febc5880d8601f70942ca7c6e4a74dd2710e9977cf", func := "seisin/seisinlaw20.ReplOrder", spec := "replOrder", unfollowed := true, recurses := true, apart := false }
def ReplOrderSaid : Prop := replOrderRow.holds Try.pinned (OpenSpec.ofChange replOrderSpec)

/-- ITS FALSE NEIGHBOUR: 'it returns false'. Refute it at one input. -/
def replOrderWrong : ChangeSpec := { name := "replOrder", fn := fun _ => fun
  | [d1, d2, d3] => { results := [.lit (.bool false)], args := [d1, d2, d3] }
  | _ => none }
def ReplOrderWrongFalsely : Prop := replOrderRow.holds Try.pinned (OpenSpec.ofChange replOrderWrong)

/-- 'seisinlaw20.ReplStays': WHATEVER THE INPUT: true; the input reads as it did. -/
def replStaysSpec : ChangeSpec := { name := "replStays", fn := fun _ => fun
  | [d1, d2, d3] => { results := [.lit (.bool true)], args := [d1, d2, d3] }
  | _ => none }
def replStaysRow : OpenClaim := { program := "ytigilihpofafoaa", sum := "9b853d200e9ec4f66a9697febc5880d8601f70942ca7c6e4a74dd2710e9977cf", func := "seisin/seisinlaw20.ReplStays", spec := "replStays", unfollowed := true, recurses := true, apart := false }
def ReplStaysSaid : Prop := replStaysRow.holds Try.pinned (OpenSpec.ofChange replStaysSpec)

/-- ITS FALSE NEIGHBOUR: 'it returns false'. Refute it at one input. -/
def replStaysWrong : ChangeSpec := { name := "replStays", fn := fun _ => fun
  | [d1, d2, d3] => { results := [.lit (.bool false)], args := [d1, d2, d3] }
  | _ => none }
def ReplStaysWrongFalsely : Prop := replStaysRow.holds Try.pinned (OpenSpec.ofChange replStaysWrong)

/- THE SECOND FORM. 'bulk': how many values and letters a reading holds, each counted each time it is reached (what is shared counts as often as it is met; a slice's spare places count too). A statement '..UptoSaid' is the law's where the arguments, and the package variables that the reading takes, are together of bulk at most 1048576: NARROWER than '..Said'. Prove '..Said' where nothing that the law and all that it calls make is longer than what came in: it says more and counts as full. Else prove '..UptoSaid'. A law counts once. -/
mutual
def uptoBulk {H : Type} : DataW H → Nat
  | .lit (.string bytes) => bytes.length + 1
  | .lit _ => 1
  | .nil => 1
  | .ptr d => uptoBulk d + 1
  | .slice elems spare => uptoBulkAll elems + uptoBulkAll spare + 1
  | .agg parts => uptoBulkAll parts + 1
  | .iface _ d => uptoBulk d + 1
  | .map entries => uptoBulkEntries entries + 1
  | .held _ => 1
def uptoBulkAll {H : Type} : List (DataW H) → Nat
  | [] => 0
  | d :: r => uptoBulk d + uptoBulkAll r
def uptoBulkEntries {H : Type} : List (Lit × DataW H) → Nat
  | [] => 0
  | x :: r => uptoBulkEntry x + uptoBulkEntries r
def uptoBulkEntry {H : Type} : Lit × DataW H → Nat
  | (.string bytes, d) => bytes.length + uptoBulk d + 1
  | (_, d) => uptoBulk d + 1
 end
def uptoSmall : (H : Type) → List (DataW H) → Bool := fun _ ds => decide (uptoBulkAll ds ≤ 1048576)
def OpenSpec.upto (s : _root_.Go.ChangeSpec) : _root_.Go.OpenSpec := { _root_.Go.OpenSpec.ofChange s with cond := some uptoSmall }

/-- 'seisinlaw20.ReplTells', WHERE WHAT IT READS IS OF BULK AT MOST 1048576: true; the input reads as it did. -/
def replTellsUptoRow : OpenClaim := { program := "ytigilihpofafoaa", sum := "9b853d200e9ec4f66a9697febc5880d8601f70942ca7c6e4a74dd2710e9977cf", func := "seisin/seisinlaw20.ReplTells", spec := "replTells", unfollowed := true, recurses := true, apart := false, narrowed := true }
def ReplTellsUptoSaid : Prop := replTellsUptoRow.holds Try.pinned (OpenSpec.upto replTellsSpec)

/-- 'seisinlaw20.ReplEnds', WHERE WHAT IT READS IS OF BULK AT MOST 1048576: true; the input reads as it did. -/
def replEndsUptoRow : OpenClaim := { program := "ytigilihpofafoaa", sum := "9b853d200e9ec4f66a9697febc5880d8601f70942ca7c6e4a74dd2710e9977cf", func := "seisin/seisinlaw20.ReplEnds", spec := "replEnds", unfollowed := true, recurses := true, apart := false, narrowed := true }
def ReplEndsUptoSaid : Prop := replEndsUptoRow.holds Try.pinned (OpenSpec.upto replEndsSpec)

/-- 'seisinlaw20.ReplVictim', WHERE WHAT IT READS IS OF BULK AT MOST 1048576: true; the input reads as it did. -/
def replVictimUptoRow : OpenClaim := { program := "ytigilihpofafoaa", sum := "9b853d200e9ec4f66a9697febc5880d8601f70942ca7c6e4a74dd2710e9977cf", func := "seisin/seisinlaw20.ReplVictim", spec := "replVictim", unfollowed := true, recurses := true, apart := false, narrowed := true }
def ReplVictimUptoSaid : Prop := replVictimUptoRow.holds Try.pinned (OpenSpec.upto replVictimSpec)

/-- 'seisinlaw20.ReplOrder', WHERE WHAT IT READS IS OF BULK AT MOST 1048576: true; the input reads as it did. -/
def replOrderUptoRow : OpenClaim := { program := "ytigilihpofafoaa", sum := "9b853d200e9ec4f66a9697febc5880d8601f70942ca7c6e4a74dd2710e9977cf", func := "seisin/seisinlaw20.ReplOrder", spec := "replOrder", unfollowed := true, recurses := true, apart := false, narrowed := true }
def ReplOrderUptoSaid : Prop := replOrderUptoRow.holds Try.pinned (OpenSpec.upto replOrderSpec)

/-- 'seisinlaw20.ReplStays', WHERE WHAT IT READS IS OF BULK AT MOST 1048576: true; the input reads as it did. -/
def replStaysUptoRow : OpenClaim := { program := "ytigilihpofafoaa", sum := "9b853d200e9ec4f66a9697febc5880d8601f70942ca7c6e4a74dd2710e9977cf", func := "seisin/seisinlaw20.ReplStays", spec := "replStays", unfollowed := true, recurses := true, apart := false, narrowed := true }
def ReplStaysUptoSaid : Prop := replStaysUptoRow.holds Try.pinned (OpenSpec.upto replStaysSpec)

end Rows
end Go.Proofs.Ytigilihpofafoaa
