/-
  No cell of these rows narrows 'for every input' (looked for: loops, veiled, ifaces, maps, wideKeys, modest, calm, conditions, laid).
  DERIVED. THE GIVEN ROWS OF THIS SEAT. 4 by the template 'for every input the law returns true; each argument reads behind the call as it read before'; 0 by the template 'total and deterministic' (their statements: YtnpcbokncacbjaaGreatTotals.lean).
  GIVEN WITH THE SEED: the statements are not yours to turn. If you find one false, say at which input.
  Laid BY PROGRAM, IN A SANDBOX (cutbox-rows.mjs): the forced cells as the released guide's own fill.sh prints them over the translation 1e592c7978dd3b40… (all of the seat's roots in one cut). By AI agents, Wed Nov 11 2026. No macro, syntax, notation, axiom, sorry.
-/
import Derived.Test.YtnpcbokncacbjaaGreatChecked
import GoSem.Claim
import GoSem.ClaimJoined
import GoSem.ClaimMapViews
import Derived.JoinedTies
import Derived.KernelRfl
namespace Go.Proofs.YtnpcbokncacbjaaGreat
/- THE CELL 'sum', in the pinned program and in every row, IS THE sha256 OF THE DUMP (.gsa) THAT YtnpcbokncacbjaaGreatProg.lean LOADS. Nothing in Lean hashes anything: it is a label: what it is worth is what the hold of that sum in a sandbox is worth. -/
noncomputable def Tryz.pinned : Pinned := { name := "ytnpcbokncacbjaagreat", sum := "1e592c7978dd3b406b69b49ec4c94926163b7404e46ffd403becbfa484ca4c22", checked := Tryz.checked }
namespace Rows
def none {H : Type} : Left H := { results := [], args := [] }

/-- 'trivettop.TopEnds': WHATEVER THE INPUT: true; the input reads as it did. -/
def topEndsSpec : ChangeSpec := { name := "topEnds", fn := fun _ => fun
  | [d1, d2, d3] => { results := [.lit (.bool true)], args := [d1, d2, d3] }
  | _ => none }
def topEndsRow : OpenClaim := { program := "ytnpcbokncacbjaagreat", sum := "1e592c7978dd3b406b69b49ec4c94926163b7404e46ffd403becbfa484ca4c22", func := "trivet/trivettop.TopEnds", spec := "topEnds", inPlace := ["slices.overlaps[int64]"], unfollowed := true, recurses := true, plainKeys := false, apart := false }
def TopEndsSaid : Prop := topEndsRow.holds Tryz.pinned (OpenSpec.ofChange topEndsSpec)

/-- ITS FALSE NEIGHBOUR: 'it returns false'. Refute it at one input. -/
def topEndsWrong : ChangeSpec := { name := "topEnds", fn := fun _ => fun
  | [d1, d2, d3] => { results := [.lit (.bool false)], args := [d1, d2, d3] }
  | _ => none }
def TopEndsWrongFalsely : Prop := topEndsRow.holds Tryz.pinned (OpenSpec.ofChange topEndsWrong)

/-- 'trivettop.TopReckons': WHATEVER THE INPUT: true; the input reads as it did. -/
def topReckonsSpec : ChangeSpec := { name := "topReckons", fn := fun _ => fun
  | [d1, d2, d3] => { results := [.lit (.bool true)], args := [d1, d2, d3] }
  | _ => none }
def topReckonsRow : OpenClaim := { program := "ytnpcbokncacbjaagreat", sum := "1e592c7978dd3b406b69b49ec4c94926163b7404e46ffd403becbfa484ca4c22", func := "trivet/trivettop.TopReckons", spec := "topReckons", inPlace := ["slices.overlaps[int64]"], unfollowed := true, recurses := true, plainKeys := false, apart := false }
def TopReckonsSaid : Prop := topReckonsRow.holds Tryz.pinned (OpenSpec.ofChange topReckonsSpec)

/-- ITS FALSE NEIGHBOUR: 'it returns false'. Refute it at one input. -/
def topReckonsWrong : ChangeSpec := { name := "topReckons", fn := fun _ => fun
  | [d1, d2, d3] => { results := [.lit (.bool false)], args := [d1, d2, d3] }
  | _ => none }
def TopReckonsWrongFalsely : Prop := topReckonsRow.holds Tryz.pinned (OpenSpec.ofChange topReckonsWrong)

/-- 'trivettop.TopLoops': WHATEVER THE INPUT: true; the input reads as it did. -/
def topLoopsSpec : ChangeSpec := { name := "topLoops", fn := fun _ => fun
  | [d1, d2, d3, d4] => { results := [.lit (.bool true)], args := [d1, d2, d3, d4] }
  | _ => none }
def topLoopsRow : OpenClaim := { program := "ytnpcbokncacbjaagreat", sum := "1e592c7978dd3b406b69b49ec4c94926163b7404e46ffd403becbfa484ca4c22", func := "trivet/trivettop.TopLoops", spec := "topLoops", inPlace := ["slices.overlaps[int64]"], unfollowed := true, recurses := true, plainKeys := false, apart := false }
def TopLoopsSaid : Prop := topLoopsRow.holds Tryz.pinned (OpenSpec.ofChange topLoopsSpec)

/-- ITS FALSE NEIGHBOUR: 'it returns false'. Refute it at one input. -/
def topLoopsWrong : ChangeSpec := { name := "topLoops", fn := fun _ => fun
  | [d1, d2, d3, d4] => { results := [.lit (.bool false)], args := [d1, d2, d3, d4] }
  | _ => none }
def TopLoopsWrongFalsely : Prop := topLoopsRow.holds Tryz.pinned (OpenSpec.ofChange topLoopsWrong)

/-- 'trivettop.TopFooted': WHATEVER THE INPUT: true; the input reads as it did. -/
def topFootedSpec : ChangeSpec := { name := "topFooted", fn := fun _ => fun
  | [d1, d2, d3, d4] => { results := [.lit (.bool true)], args := [d1, d2, d3, d4] }
  | _ => none }
def topFootedRow : OpenClaim := { program := "ytnpcbokncacbjaagreat", sum := "1e592c7978dd3b406b69b49ec4c94926163b7404e46ffd403becbfa484ca4c22", func := "trivet/trivettop.TopFooted", spec := "topFooted", inPlace := ["slices.overlaps[int64]"], unfollowed := true, recurses := true, plainKeys := false, apart := false }
def TopFootedSaid : Prop := topFootedRow.holds Tryz.pinned (OpenSpec.ofChange topFootedSpec)

/-- ITS FALSE NEIGHBOUR: 'it returns false'. Refute it at one input. -/
def topFootedWrong : ChangeSpec := { name := "topFooted", fn := fun _ => fun
  | [d1, d2, d3, d4] => { results := [.lit (.bool false)], args := [d1, d2, d3, d4] }
  | _ => none }
def TopFootedWrongFalsely : Prop := topFootedRow.holds Tryz.pinned (OpenSpec.ofChange topFootedWrong)

/- THE SECOND FORM. 'bulk': how many values and letters a reading holds, each counted each time it is reached (what is shared counts as often as it is met; a slice's spare places count too). A statement '..UptoSaid' is the law's where the arguments, and the package variables that the reading takes, are together of bulk at most 1048576: NARROWER than '..Said'. Prove '..Said' where nothing that the law and all that it calls make is longer than what came in: it says more and counts as full. Else prove '..UptoSaid'. A law counts once. -/
mutual
def uptoBulk {H : Type} : DataW H → Nat
  | .lit (.string bytes) => bytes.length + 1
  | .lit _ => 1
  | .nil => 1
  | .ptr d => uptoBulk d + 1
  | .slice elems spare => uptoBulkAll elems + uptoBulkAll spare + 1
  | .agg parts => uptoBulkAll parts + 1
  | .iface _ d => uptoBulk d + 1
  | .map entries => uptoBulkEntries entries + 1
  | .held _ => 1
def uptoBulkAll {H : Type} : List (DataW H) → Nat
  | [] => 0
  | d :: r => uptoBulk d + uptoBulkAll r
def uptoBulkEntries {H : Type} : List (Lit × DataW H) → Nat
  | [] => 0
  | x :: r => uptoBulkEntry x + uptoBulkEntries r
def uptoBulkEntry {H : Type} : Lit × DataW H → Nat
  | (.string bytes, d) => bytes.length + uptoBulk d + 1
  | (_, d) => uptoBulk d + 1
 end
def uptoSmall : (H : Type) → List (DataW H) → Bool := fun _ ds => decide (uptoBulkAll ds ≤ 1048576)
def OpenSpec.upto (s : _root_.Go.ChangeSpec) : _root_.Go.OpenSpec := { _root_.Go.OpenSpec.ofChange s with cond := some uptoSmall }

/-- 'trivettop.TopEnds', WHERE WHAT IT READS IS OF BULK AT MOST 1048576: true; the input reads as it did. -/
def topEndsUptoRow : OpenClaim := { program := "ytnpcbokncacbjaagreat", sum := "1e592c7978dd3b406b69b49ec4c94926163b7404e46ffd403becbfa484ca4c22", func := "trivet/trivettop.TopEnds", spec := "topEnds", inPlace := ["slices.overlaps[int64]"], unfollowed := true, recurses := true, plainKeys := false, apart := false, narrowed := true }
def TopEndsUptoSaid : Prop := topEndsUptoRow.holds Tryz.pinned (OpenSpec.upto topEndsSpec)

/-- 'trivettop.TopReckons', WHERE WHAT IT READS IS OF BULK AT MOST 1048576: true; the input reads as it did. -/
def topReckonsUptoRow : OpenClaim := { program := "ytnpcbokncacbjaagreat", sum := "1e592c7978dd3b406b69b49ec4c94926163b7404e46ffd403becbfa484ca4c22", func := "trivet/trivettop.TopReckons", spec := "topReckons", inPlace := ["slices.overlaps[int64]"], unfollowed := true, recurses := true, plainKeys := false, apart := false, narrowed := true }
def TopReckonsUptoSaid : Prop := topReckonsUptoRow.holds Tryz.pinned (OpenSpec.upto topReckonsSpec)

/-- 'trivettop.TopLoops', WHERE WHAT IT READS IS OF BULK AT MOST 1048576: true; the input reads as it did. -/
def topLoopsUptoRow : OpenClaim := { program := "ytnpcbokncacbjaagreat", sum := "1e592c7978dd3b406b69b49ec4c94926163b7404e46ffd403becbfa484ca4c22", func := "trivet/trivettop.TopLoops", spec := "topLoops", inPlace := ["slices.overlaps[int64]"], unfollowed := true, recurses := true, plainKeys := false, apart := false, narrowed := true }
def TopLoopsUptoSaid : Prop := topLoopsUptoRow.holds Tryz.pinned (OpenSpec.upto topLoopsSpec)

/-- 'trivettop.TopFooted', WHERE WHAT IT READS IS OF BULK AT MOST 1048576: true; the input reads as it did. -/
def topFootedUptoRow : OpenClaim := { program := "ytnpcbokncacbjaagreat", sum := "1e592c7978dd3b406b69b49ec4c94926163b7404e46ffd403becbfa484ca4c22", func := "trivet/trivettop.TopFooted", spec := "topFooted", inPlace := ["slices.overlaps[int64]"], unfollowed := true, recurses := true, plainKeys := false, apart := false, narrowed := true }
def TopFootedUptoSaid : Prop := topFootedUptoRow.holds Tryz.pinned (OpenSpec.upto topFootedSpec)

end Rows
end Go.Proofs.YtnpcbokncacbjaaGreat
