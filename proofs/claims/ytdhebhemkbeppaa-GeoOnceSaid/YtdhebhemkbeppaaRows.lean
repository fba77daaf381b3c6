/-
  No cell of these rows narrows 'for every input' (looked for: loops, veiled, ifaces, maps, wideKeys, modest, calm, conditions, laid).
  DERIVED. THE GIVEN ROWS OF THIS SEAT. 4 by the template 'for every input the law returns true; each argument reads behind the call as it read before'; 0 by the template 'total and deterministic' (their statements: YtdhebhemkbeppaaTotals.lean).
  GIVEN WITH THE SEED: the statements are not yours to turn. If you find one false, say at which input.
  Laid BY PROGRAM, IN A SANDBOX (cutbox-rows.mjs): the forced cells as the released guide's own fill.sh prints them over the translation 5b77be4c5434f94b… (all of the seat's roots in one cut). By AI agents, Wed Nov 11 2026. No macro, syntax, notation, axiom, sorry.
-/
import Derived.Test.YtdhebhemkbeppaaChecked
import GoSem.Claim
import GoSem.ClaimJoined
import GoSem.ClaimMapViews
import Derived.JoinedTies
import Derived.KernelRfl
namespace Go.Proofs.Ytdhebhemkbeppaa
/- THE CELL 'sum', in the pinned program and in every row, IS THE sha256 OF THE DUMP (.gsa) THAT YtdhebhemkbeppaaProg.lean LOADS. Nothing in Lean hashes anything: it is a label: what it is worth is what the hold of that sum in a sandbox is worth. -/
noncomputable def Try.pinned : Pinned := { name := "ytdhebhemkbeppaa", sum := "5b77be4c5434f94be26da49c30e1bee3bf14d56141c1f8f64455e19dc4ce7ec9", checked := Try.checked }
namespace Rows
def none {H : Type} : Left H := { results := [], args := [] }

/-- 'seisinlaw16.GeoOnce': WHATEVER THE INPUT: true; the input reads as it did. -/
def geoOnceSpec : ChangeSpec := { name := "geoOnce", fn := fun _ => fun
  | [d] => { results := [.lit (.bool true)], args := [d] }
  | _ => none }
def geoOnceRow : OpenClaim := { program := "ytdhebhemkbeppaa", sum := "5b77be4c5434f94be26da49c30e1bee3bf14d56141c1f8f64455e19dc4ce7ec9", func := "seisin/seisinlaw16.GeoOnce", spec := "geoOnce", unfollowed := true, recurses := true, apart := false }
def GeoOnceSaid : Prop := geoOnceRow.holds Try.pinned (OpenSpec.ofChange geoOnceSpec)

/-- ITS FALSE NEIGHBOUR: 'it returns false'. Refute it at one input. -/
def geoOnceWrong : ChangeSpec := { name := "geoOnce", fn := fun _ => fun
  | [d] => { results := [.lit (.bool false)], args := [d] }
  | _ => none }
def GeoOnceWrongFalsely : Prop := geoOnceRow.holds Try.pinned (OpenSpec.ofChange geoOnceWrong)

/-- 'seisinlaw16.GeoWords': WHATEVER THE INPUT: true; the input reads as it did. -/
def geoWordsSpec : ChangeSpec := { name := "geoWords", fn := fun _ => fun
  | [d1, d2, d3, d4] => { results := [.lit (.bool true)], args := [d1, d2, d3, d4] }
  | _ => none }
def geoWordsRow : OpenClaim := { program := "ytdhebhemkbeppaa", sum := "5b77be4c5434f94be26da49c30e1bee3bf14d56141c1f8f64455e19dc4ce7ec9", func := "seisin/seisinlaw16.GeoWords", spec := "geoWords", unfollowed := true, recurses := true, apart := false }
def GeoWordsSaid : Prop := geoWordsRow.holds Try.pinned (OpenSpec.ofChange geoWordsSpec)

/-- ITS FALSE NEIGHBOUR: 'it returns false'. Refute it at one input. -/
def geoWordsWrong : ChangeSpec := { name := "geoWords", fn := fun _ => fun
  | [d1, d2, d3, d4] => { results := [.lit (.bool false)], args := [d1, d2, d3, d4] }
  | _ => none }
def GeoWordsWrongFalsely : Prop := geoWordsRow.holds Try.pinned (OpenSpec.ofChange geoWordsWrong)

/-- 'seisinlaw16.GeoKeeps': WHATEVER THE INPUT: true; the input reads as it did. -/
def geoKeepsSpec : ChangeSpec := { name := "geoKeeps", fn := fun _ => fun
  | [d1, d2, d3, d4] => { results := [.lit (.bool true)], args := [d1, d2, d3, d4] }
  | _ => none }
def geoKeepsRow : OpenClaim := { program := "ytdhebhemkbeppaa", sum := "5b77be4c5434f94be26da49c30e1bee3bf14d56141c1f8f64455e19dc4ce7ec9", func := "seisin/seisinlaw16.GeoKeeps", spec := "geoKeeps", unfollowed := true, recurses := true, apart := false }
def GeoKeepsSaid : Prop := geoKeepsRow.holds Try.pinned (OpenSpec.ofChange geoKeepsSpec)

/-- ITS FALSE NEIGHBOUR: 'it returns false'. Refute it at one input. -/
def geoKeepsWrong : ChangeSpec := { name := "geoKeeps", fn := fun _ => fun
  | [d1, d2, d3, d4] => { results := [.lit (.bool false)], args := [d1, d2, d3, d4] }
  | _ => none }
def GeoKeepsWrongFalsely : Prop := geoKeepsRow.holds Try.pinned (OpenSpec.ofChange geoKeepsWrong)

/-- 'seisinlaw16.GeoNodes': WHATEVER THE INPUT: true; the input reads as it did. -/
def geoNodesSpec : ChangeSpec := { name := "geoNodes", fn := fun _ => fun
  | [d1, d2] => { results := [.lit (.bool true)], args := [d1, d2] }
  | _ => none }
def geoNodesRow : OpenClaim := { program := "ytdhebhemkbeppaa", sum := "5b77be4c5434f94be26da49c30e1bee3bf14d56141c1f8f64455e19dc4ce7ec9", func := "seisin/seisinlaw16.GeoNodes", spec := "geoNodes", unfollowed := true, recurses := true, apart := false }
def GeoNodesSaid : Prop := geoNodesRow.holds Try.pinned (OpenSpec.ofChange geoNodesSpec)

/-- ITS FALSE NEIGHBOUR: 'it returns false'. Refute it at one input. -/
def geoNodesWrong : ChangeSpec := { name := "geoNodes", fn := fun _ => fun
  | [d1, d2] => { results := [.lit (.bool false)], args := [d1, d2] }
  | _ => none }
def GeoNodesWrongFalsely : Prop := geoNodesRow.holds Try.pinned (OpenSpec.ofChange geoNodesWrong)

/- THE SECOND FORM. 'bulk': how many values and letters a reading holds, each counted each time it is reached (what is shared counts as often as it is met; a slice's spare places count too). A statement '..UptoSaid' is the law's where the arguments, and the package variables that the reading takes, are together of bulk at most 1048576: NARROWER than '..Said'. Prove '..Said' where nothing that the law and all that it calls make is longer than what came in: it says more and counts as full. Else prove '..UptoSaid'. A law counts once. -/
mutual
def uptoBulk {H : Type} : DataW H → Nat
  | .lit (.string bytes) => bytes.length + 1
  | .lit _ => 1
  | .nil => 1
  | .ptr d => uptoBulk d + 1
  | .slice elems spare => uptoBulkAll elems + uptoBulkAll spare + 1
  | .agg parts => uptoBulkAll parts + 1
  | .iface _ d => uptoBulk d + 1
  | .map entries => uptoBulkEntries entries + 1
  | .held _ => 1
def uptoBulkAll {H : Type} : List (DataW H) → Nat
  | [] => 0
  | d :: r => uptoBulk d + uptoBulkAll r
def uptoBulkEntries {H : Type} : List (Lit × DataW H) → Nat
  | [] => 0
  | x :: r => uptoBulkEntry x + uptoBulkEntries r
def uptoBulkEntry {H : Type} : Lit × DataW H → Nat
  | (.string bytes, d) => bytes.length + uptoBulk d + 1
  | (_, d) => uptoBulk d + 1
 end
def uptoSmall : (H : Type) → List (DataW H) → Bool := fun _ ds => decide (uptoBulkAll ds ≤ 1048576)
def OpenSpec.upto (s : _root_.Go.ChangeSpec) : _root_.Go.OpenSpec := { _root_.Go.OpenSpec.ofChange s with cond := some uptoSmall }

/-- 'seisinlaw16.GeoOnce', WHERE WHAT IT READS IS OF BULK AT MOST 1048576: true; the input reads as it did. -/
def geoOnceUptoRow : OpenClaim := { program := "ytdhebhemkbeppaa", sum := "5b77be4c5434f94be26da49c30e1bee3bf14d56141c1f8f64455e19dc4ce7ec9", func := "seisin/seisinlaw16.GeoOnce", spec := "geoOnce", unfollowed := true, recurses := true, apart := false, narrowed := true }
def GeoOnceUptoSaid : Prop := geoOnceUptoRow.holds Try.pinned (OpenSpec.upto geoOnceSpec)

/-- 'seisinlaw16.GeoWords', WHERE WHAT IT READS IS OF BULK AT MOST 1048576: true; the input reads as it did. -/
def geoWordsUptoRow : OpenClaim := { program := "ytdhebhemkbeppaa", sum := "5b77be4c5434f94be26da49c30e1bee3bf14d56141c1f8f64455e19dc4ce7ec9", func := "seisin/seisinlaw16.GeoWords", spec := "geoWords", unfollowed := true, recurses := true, apart := false, narrowed := true }
def GeoWordsUptoSaid : Prop := geoWordsUptoRow.holds Try.pinned (OpenSpec.upto geoWordsSpec)

/-- 'seisinlaw16.GeoKeeps', WHERE WHAT IT READS IS OF BULK AT MOST 1048576: true; the input reads as it did. -/
def geoKeepsUptoRow : OpenClaim := { program := "ytdhebhemkbeppaa", sum := "5b77be4c5434f94be26da49c30e1bee3bf14d56141c1f8f64455e19dc4ce7ec9", func := "seisin/seisinlaw16.GeoKeeps", spec := "geoKeeps", unfollowed := true, recurses := true, apart := false, narrowed := true }
def GeoKeepsUptoSaid : Prop := geoKeepsUptoRow.holds Try.pinned (OpenSpec.upto geoKeepsSpec)

/-- 'seisinlaw16.GeoNodes', WHERE WHAT IT READS IS OF BULK AT MOST 1048576: true; the input reads as it did. -/
def geoNodesUptoRow : OpenClaim := { program := "ytdhebhemkbeppaa", sum := "5b77be4c5434f94be26da49c30e1bee3bf14d56141c1f8f64455e19dc4ce7ec9", func := "seisin/seisinlaw16.GeoNodes", spec := "geoNodes", unfollowed := true, recurses := true, apart := false, narrowed := true }
def GeoNodesUptoSaid : Prop := geoNodesUptoRow.holds Try.pinned (OpenSpec.upto geoNodesSpec)

end Rows
end Go.Proofs.Ytdhebhemkbeppaa
