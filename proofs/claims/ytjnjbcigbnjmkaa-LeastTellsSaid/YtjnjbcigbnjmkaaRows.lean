/-
  No cell of these rows narrows 'for every input' (looked for: loops, veiled, ifaces, maps, wideKeys, modest, calm, conditions, laid).
  DERIVED. THE GIVEN ROWS OF THIS SEAT. 6 by the template 'for every input the law returns true; each argument reads behind the call as it read before'; 0 by the template 'total and deterministic' (their statements: YtjnjbcigbnjmkaaTotals.lean).
  GIVEN WITH THE SEED: the statements are not yours to turn. If you find one false, say at which input.
  Laid BY PROGRAM, IN A SANDBOX (cutbox-rows.mjs): the forced cells as the released guide's own fill.sh prints them over the translation 5025c15c0ca33dbd… (all of the seat's roots in one cut). By AI agents, Wed Nov 11 2026. No macro, syntax, notation, axiom, sorry.
-/
import Derived.Test.YtjnjbcigbnjmkaaChecked
import GoSem.Claim
import GoSem.ClaimJoined
import GoSem.ClaimMapViews
import Derived.JoinedTies
import Derived.KernelRfl
namespace Go.Proofs.Ytjnjbcigbnjmkaa
/- THE CELL 'sum', in the pinned program and in every row, IS THE sha256 OF THE DUMP (.gsa) THAT YtjnjbcigbnjmkaaProg.lean LOADS. Nothing in Lean hashes anything: it is a label: what it is worth is what the hold of that sum in a sandbox is worth. -/
noncomputable def Try.pinned : Pinned := { name := "ytjnjbcigbnjmkaa", sum := "5025c15c0ca33dbd59c7a4193980ad3d156ebded60695603499a42974f340e1b", checked := Try.checked }
namespace Rows
def none {H : Type} : Left H := { results := [], args := [] }

/-- 'provostlaw10.SubsetRuns': WHATEVER THE INPUT: true; the input reads as it did. -/
def subsetRunsSpec : ChangeSpec := { name := "subsetRuns", fn := fun _ => fun
  | [d1, d2, d3, d4, d5] => { results := [.lit (.bool true)], args := [d1, d2, d3, d4, d5] }
  | _ => none }
def subsetRunsRow : OpenClaim := { program := "ytjnjbcigbnjmkaa", sum := "5025c15c0ca33dbd59c7a4193980ad3d156ebded60695603499a42974f340e1b", func := "provost/provostlaw10.SubsetRuns", spec := "subsetRuns", unfollowed := true, recurses := true, plainKeys := false, apart := false }
def SubsetRunsSaid : Prop := subsetRunsRow.holds Try.pinned (OpenSpec.ofChange subsetRunsSpec)

/-- ITS FALSE NEIGHBOUR: 'it returns false'. Refute it at one input. -/
def subsetRunsWrong : ChangeSpec := { name := "subsetRuns", fn := fun _ => fun
  | [d1, d2, d3, d4, d5] => { results := [.lit (.bool false)], args := [d1, d2, d3, d4, d5] }
  | _ => none }
def SubsetRunsWrongFalsely : Prop := subsetRunsRow.holds Try.pinned (OpenSpec.ofChange subsetRunsWrong)

/-- 'provostlaw09.AutoBuilds': WHATEVER THE INPUT: true; the input reads as it did. -/
def autoBuildsSpec : ChangeSpec := { name := "autoBuilds", fn := fun _ => fun
  | [d] => { results := [.lit (.bool true)], args := [d] }
  | _ => none }
def autoBuildsRow : OpenClaim := { program := "ytjnjbcigbnjmkaa", sum := "5025c15c0ca33dbd59c7a4193980ad3d156ebded60695603499a42974f340e1b", func := "provost/provostlaw09.AutoBuilds", spec := "autoBuilds", unfollowed := true, recurses := true, plainKeys := false, apart := false }
def AutoBuildsSaid : Prop := autoBuildsRow.holds Try.pinned (OpenSpec.ofChange autoBuildsSpec)

/-- ITS FALSE NEIGHBOUR: 'it returns false'. Refute it at one input. -/
def autoBuildsWrong : ChangeSpec := { name := "autoBuilds", fn := fun _ => fun
  | [d] => { results := [.lit (.bool false)], args := [d] }
  | _ => none }
def AutoBuildsWrongFalsely : Prop := autoBuildsRow.holds Try.pinned (OpenSpec.ofChange autoBuildsWrong)

/-- 'provostlaw08.TongueTells': WHATEVER THE INPUT: true; the input reads as it did. -/
def tongueTellsSpec : ChangeSpec := { name := "tongueTells", fn := fun _ => fun
  | [d1, d2, d3] => { results := [.lit (.bool true)], args := [d1, d2, d3] }
  | _ => none }
def tongueTellsRow : OpenClaim := { program := "ytjnjbcigbnjmkaa", sum := "5025c15c0ca33dbd59c7a4193980ad3d156ebded60695603499a42974f340e1b", func := "provost/provostlaw08.TongueTells", spec := "tongueTells", unfollowed := true, recurses := true, plainKeys := false, apart := false }
def TongueTellsSaid : Prop := tongueTellsRow.holds Try.pinned (OpenSpec.ofChange tongueTellsSpec)

/-- ITS FALSE NEIGHBOUR: 'it returns false'. Refute it at one input. -/
def tongueTellsWrong : ChangeSpec := { name := "tongueTells", fn := fun _ => fun
  | [d1, d2, d3] => { results := [.lit (.bool false)], args := [d1, d2, d3] }
  | _ => none }
def TongueTellsWrongFalsely : Prop := tongueTellsRow.holds Try.pinned (OpenSpec.ofChange tongueTellsWrong)

/-- 'provostlaw09.AutoRuns': WHATEVER THE INPUT: true; the input reads as it did. -/
def autoRunsSpec : ChangeSpec := { name := "autoRuns", fn := fun _ => fun
  | [d1, d2, d3, d4, d5] => { results := [.lit (.bool true)], args := [d1, d2, d3, d4, d5] }
  | _ => none }
def autoRunsRow : OpenClaim := { program := "ytjnjbcigbnjmkaa", sum := "5025c15c0ca33dbd59c7a4193980ad3d156ebded60695603499a42974f340e1b", func := "provost/provostlaw09.AutoRuns", spec := "autoRuns", unfollowed := true, recurses := true, plainKeys := false, apart := false }
def AutoRunsSaid : Prop := autoRunsRow.holds Try.pinned (OpenSpec.ofChange autoRunsSpec)

/-- ITS FALSE NEIGHBOUR: 'it returns false'. Refute it at one input. -/
def autoRunsWrong : ChangeSpec := { name := "autoRuns", fn := fun _ => fun
  | [d1, d2, d3, d4, d5] => { results := [.lit (.bool false)], args := [d1, d2, d3, d4, d5] }
  | _ => none }
def AutoRunsWrongFalsely : Prop := autoRunsRow.holds Try.pinned (OpenSpec.ofChange autoRunsWrong)

/-- 'provostlaw10.SubsetBuilds': WHATEVER THE INPUT: true; the input reads as it did. -/
def subsetBuildsSpec : ChangeSpec := { name := "subsetBuilds", fn := fun _ => fun
  | [d] => { results := [.lit (.bool true)], args := [d] }
  | _ => none }
def subsetBuildsRow : OpenClaim := { program := "ytjnjbcigbnjmkaa", sum := "5025c15c0ca33dbd59c7a4193980ad3d156ebded60695603499a42974f340e1b", func := "provost/provostlaw10.SubsetBuilds", spec := "subsetBuilds", unfollowed := true, recurses := true, plainKeys := false, apart := false }
def SubsetBuildsSaid : Prop := subsetBuildsRow.holds Try.pinned (OpenSpec.ofChange subsetBuildsSpec)

/-- ITS FALSE NEIGHBOUR: 'it returns false'. Refute it at one input. -/
def subsetBuildsWrong : ChangeSpec := { name := "subsetBuilds", fn := fun _ => fun
  | [d] => { results := [.lit (.bool false)], args := [d] }
  | _ => none }
def SubsetBuildsWrongFalsely : Prop := subsetBuildsRow.holds Try.pinned (OpenSpec.ofChange subsetBuildsWrong)

/-- 'provostlaw11.LeastTells': WHATEVER THE INPUT: true; the input reads as it did. -/
def leastTellsSpec : ChangeSpec := { name := "leastTells", fn := fun _ => fun
  | [d1, d2] => { results := [.lit (.bool true)], args := [d1, d2] }
  | _ => none }
def leastTellsRow : OpenClaim := { program := "ytjnjbcigbnjmkaa", sum := "5025c15c0ca33dbd59c7a4193980ad3d156ebded60695603499a42974f340e1b", func := "provost/provostlaw11.LeastTells", spec := "leastTells", unfollowed := true, recurses := true, plainKeys := false, apart := false }
def LeastTellsSaid : Prop := leastTellsRow.holds Try.pinned (OpenSpec.ofChange leastTellsSpec)

/-- ITS FALSE NEIGHBOUR: 'it returns false'. Refute it at one input. -/
def leastTellsWrong : ChangeSpec := { name := "leastTells", fn := fun _ => fun
  | [d1, d2] => { results := [.lit (.bool false)], args := [d1, d2] }
  | _ => none }
def LeastTellsWrongFalsely : Prop := leastTellsRow.holds Try.pinned (OpenSpec.ofChange leastTellsWrong)

/- THE SECOND FORM. 'bulk': how many values and letters a reading holds, each counted each time it is reached (what is shared counts as often as it is met; a slice's spare places count too). A statement '..UptoSaid' is the law's where the arguments, and the package variables that the reading takes, are together of bulk at most 1048576: NARROWER than '..Said'. Prove '..Said' where nothing that the law and all that it calls make is longer than what came in: it says more and counts as full. Else prove '..UptoSaid'. A law counts once. -/
mutual
def uptoBulk {H : Type} : DataW H → Nat
  | .lit (.string bytes) => bytes.length + 1
  | .lit _ => 1
  | .nil => 1
  | .ptr d => uptoBulk d + 1
  | .slice elems spare => uptoBulkAll elems + uptoBulkAll spare + 1
  | .agg parts => uptoBulkAll parts + 1
  | .iface _ d => uptoBulk d + 1
  | .map entries => uptoBulkEntries entries + 1
  | .held _ => 1
def uptoBulkAll {H : Type} : List (DataW H) → Nat
  | [] => 0
  | d :: r => uptoBulk d + uptoBulkAll r
def uptoBulkEntries {H : Type} : List (Lit × DataW H) → Nat
  | [] => 0
  | x :: r => uptoBulkEntry x + uptoBulkEntries r
def uptoBulkEntry {H : Type} : Lit × DataW H → Nat
  | (.string bytes, d) => bytes.length + uptoBulk d + 1
  | (_, d) => uptoBulk d + 1
 end
def uptoSmall : (H : Type) → List (DataW H) → Bool := fun _ ds => decide (uptoBulkAll ds ≤ 1048576)
def OpenSpec.upto (s : _root_.Go.ChangeSpec) : _root_.Go.OpenSpec := { _root_.Go.OpenSpec.ofChange s with cond := some uptoSmall }

/-- 'provostlaw10.SubsetRuns', WHERE WHAT IT READS IS OF BULK AT MOST 1048576: true; the input reads as it did. -/
def subsetRunsUptoRow : OpenClaim := { program := "ytjnjbcigbnjmkaa", sum := "5025c15c0ca33dbd59c7a4193980ad3d156ebded60695603499a42974f340e1b", func := "provost/provostlaw10.SubsetRuns", spec := "subsetRuns", unfollowed := true, recurses := true, plainKeys := false, apart := false, narrowed := true }
def SubsetRunsUptoSaid : Prop := subsetRunsUptoRow.holds Try.pinned (OpenSpec.upto subsetRunsSpec)

/-- 'provostlaw09.AutoBuilds', WHERE WHAT IT READS IS OF BULK AT MOST 1048576: true; the input reads as it did. -/
def autoBuildsUptoRow : OpenClaim := { program := "ytjnjbcigbnjmkaa", sum := "5025c15c0ca33dbd59c7a4193980ad3d156ebded60695603499a42974f340e1b", func := "provost/provostlaw09.AutoBuilds", spec := "autoBuilds", unfollowed := true, recurses := true, plainKeys := false, apart := false, narrowed := true }
def AutoBuildsUptoSaid : Prop := autoBuildsUptoRow.holds Try.pinned (OpenSpec.upto autoBuildsSpec)

/-- 'provostlaw08.TongueTells', WHERE WHAT IT READS IS OF BULK AT MOST 1048576: true; the input reads as it did. -/
def tongueTellsUptoRow : OpenClaim := { program := "ytjnjbcigbnjmkaa", sum := "5025c15c0ca33dbd59c7a4193980ad3d156ebded60695603499a42974f340e1b", func := "provost/provostlaw08.TongueTells", spec := "tongueTells", unfollowed := true, recurses := true, plainKeys := false, apart := false, narrowed := true }
def TongueTellsUptoSaid : Prop := tongueTellsUptoRow.holds Try.pinned (OpenSpec.upto tongueTellsSpec)

/-- 'provostlaw09.AutoRuns', WHERE WHAT IT READS IS OF BULK AT MOST 1048576: true; the input reads as it did. -/
def autoRunsUptoRow : OpenClaim := { program := "ytjnjbcigbnjmkaa", sum := "5025c15c0ca33dbd59c7a4193980ad3d156ebded60695603499a42974f340e1b", func := "provost/provostlaw09.AutoRuns", spec := "autoRuns", unfollowed := true, recurses := true, plainKeys := false, apart := false, narrowed := true }
def AutoRunsUptoSaid : Prop := autoRunsUptoRow.holds Try.pinned (OpenSpec.upto autoRunsSpec)

/-- 'provostlaw10.SubsetBuilds', WHERE WHAT IT READS IS OF BULK AT MOST 1048576: true; the input reads as it did. -/
def subsetBuildsUptoRow : OpenClaim := { program := "ytjnjbcigbnjmkaa", sum := "5025c15c0ca33dbd59c7a4193980ad3d156ebded60695603499a42974f340e1b", func := "provost/provostlaw10.SubsetBuilds", spec := "subsetBuilds", unfollowed := true, recurses := true, plainKeys := false, apart := false, narrowed := true }
def SubsetBuildsUptoSaid : Prop := subsetBuildsUptoRow.holds Try.pinned (OpenSpec.upto subsetBuildsSpec)

/-- 'provostlaw11.LeastTells', WHERE WHAT IT READS IS OF BULK AT MOST 1048576: true; the input reads as it did. -/
def leastTellsUptoRow : OpenClaim := { program := "ytjnjbcigbnjmkaa", sum := "5025c15c0ca33dbd59c7a4193980ad3d156ebded60695603499a42974f340e1b", func := "provost/provostlaw11.LeastTells", spec := "leastTells", unfollowed := true, recurses := true, plainKeys := false, apart := false, narrowed := true }
def LeastTellsUptoSaid : Prop := leastTellsUptoRow.holds Try.pinned (OpenSpec.upto leastTellsSpec)

end Rows
end Go.Proofs.Ytjnjbcigbnjmkaa
