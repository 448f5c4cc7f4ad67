/-
  No cell of these rows narrows 'for every input' (looked for: loops, veiled, ifaces, maps, wideKeys, modest, calm, conditions, laid).
  DERIVED. THE GIVEN ROWS OF THIS SEAT. 3 by the template 'for every input the law returns true; each argument reads behind the call as it read before'; 0 by the template 'total and deterministic' (their statements: YtmjbbpappigngaaGreatTotals.lean).
  GIVEN WITH THE SEED: the statements are not yours to turn. If you find one false, say at which input.
  Laid BY PROGRAM, IN A SANDBOX (cutbox-rows.mjs): the forced cells as the released guide's own fill.sh prints them over the translation 3f32f7ada94b2c0d… (all of the seat's roots in one cut). By AI agents, Wed Nov 11 2026. No macro, syntax, notation, axiom, sorry.
-/
import Derived.Test.YtmjbbpappigngaaGreatChecked
import GoSem.Claim
import GoSem.ClaimJoined
import GoSem.ClaimMapViews
import Derived.JoinedTies
import Derived.KernelRfl
namespace Go.Proofs.YtmjbbpappigngaaGreat
/- THE CELL 'sum', in the pinned program and in every row, IS THE sha256 OF THE DUMP (.gsa) THAT YtmjbbpappigngaaGreatProg.lean LOADS. Nothing in Lean hashes anything: it is a label: what it is worth is what the hold of that sum in a sandbox is worth. -/
noncomputable def Tryz.pinned : Pinned := { name := "ytmjbbpappigngaagreat", sum := "3f32f7ada94b2c0d568b65dec8eb2952d5a00c568644294f86217cdbc22b683b", checked := Tryz.checked }
namespace Rows
def none {H : Type} : Left H := { results := [], args := [] }

/-- 'tollwaylaw44.ReconRounds': WHATEVER THE INPUT: true; the input reads as it did. -/
def reconRoundsSpec : ChangeSpec := { name := "reconRounds", fn := fun _ => fun
  | [d1, d2] => { results := [.lit (.bool true)], args := [d1, d2] }
  | _ => none }
def reconRoundsRow : OpenClaim := { program := "ytmjbbpappigngaagreat", sum := "3f32f7ada94b2c0d568b65dec8eb2952d5a00c568644294f86217cdbc22b683b", func := "tollway/tollwaylaw44.ReconRounds", spec := "reconRounds", inPlace := ["internal/bytealg.abigen_runtime_cmpstring"], unfollowed := true, recurses := true, apart := false }
def ReconRoundsSaid : Prop := reconRoundsRow.holds Tryz.pinned (OpenSpec.ofChange reconRoundsSpec)

/-- ITS FALSE NEIGHBOUR: 'it returns false'. Refute it at one input. -/
def reconRoundsWrong : ChangeSpec := { name := "reconRounds", fn := fun _ => fun
  | [d1, d2] => { results := [.lit (.bool false)], args := [d1, d2] }
  | _ => none }
def ReconRoundsWrongFalsely : Prop := reconRoundsRow.holds Tryz.pinned (OpenSpec.ofChange reconRoundsWrong)

/-- 'tollwaylaw44.ReconChanged': WHATEVER THE INPUT: true; the input reads as it did. -/
def reconChangedSpec : ChangeSpec := { name := "reconChanged", fn := fun _ => fun
  | [d1, d2, d3] => { results := [.lit (.bool true)], args := [d1, d2, d3] }
  | _ => none }
def reconChangedRow : OpenClaim := { program := "ytmjbbpappigngaagreat", sum := "3f32f7ada94b2c0d568b65dec8eb2952d5a00c568644294f86217cdbc22b683b", func := "tollway/tollwaylaw44.ReconChanged", spec := "reconChanged", inPlace := ["internal/bytealg.abigen_runtime_cmpstring"], unfollowed := true, recurses := true, apart := false }
def ReconChangedSaid : Prop := reconChangedRow.holds Tryz.pinned (OpenSpec.ofChange reconChangedSpec)

/-- ITS FALSE NEIGHBOUR: 'it returns false'. Refute it at one input. -/
def reconChangedWrong : ChangeSpec := { name := "reconChanged", fn := fun _ => fun
  | [d1, d2, d3] => { results := [.lit (.bool false)], args := [d1, d2, d3] }
  | _ => none }
def ReconChangedWrongFalsely : Prop := reconChangedRow.holds Tryz.pinned (OpenSpec.ofChange reconChangedWrong)

/-- 'tollwaylaw44.ReconSettles': WHATEVER THE INPUT: true; the input reads as it did. -/
def reconSettlesSpec : ChangeSpec := { name := "reconSettles", fn := fun _ => fun
  | [d1, d2, d3] => { results := [.lit (.bool true)], args := [d1, d2, d3] }
  | _ => none }
def reconSettlesRow : OpenClaim := { program := "ytmjbbpappigngaagreat", sum := "3f32f7ada94b2c0d568b65dec8eb2952d5a00c568644294f86217cdbc22b683b", func := "tollway/tollwaylaw44.ReconSettles", spec := "reconSettles", inPlace := ["internal/bytealg.abigen_runtime_cmpstring"], unfollowed := true, recurses := true, apart := false }
def ReconSettlesSaid : Prop := reconSettlesRow.holds Tryz.pinned (OpenSpec.ofChange reconSettlesSpec)

/-- ITS FALSE NEIGHBOUR: 'it returns false'. Refute it at one input. -/
def reconSettlesWrong : ChangeSpec := { name := "reconSettles", fn := fun _ => fun
  | [d1, d2, d3] => { results := [.lit (.bool false)], args := [d1, d2, d3] }
  | _ => none }
def ReconSettlesWrongFalsely : Prop := reconSettlesRow.holds Tryz.pinned (OpenSpec.ofChange reconSettlesWrong)

/- THE SECOND FORM. 'bulk': how many values and letters a reading holds, each counted each time it is reached (what is shared counts as often as it is met; a slice's spare places count too). A statement '..UptoSaid' is the law's where the arguments, and the package variables that the reading takes, are together of bulk at most 1048576: NARROWER than '..Said'. Prove '..Said' where nothing that the law and all that it calls make is longer than what came in: it says more and counts as full. Else prove '..UptoSaid'. A law counts once. -/
mutual
def uptoBulk {H : Type} : DataW H → Nat
  | .lit (.string bytes) => bytes.length + 1
  | .lit _ => 1
  | .nil => 1
  | .ptr d => uptoBulk d + 1
  | .slice elems spare => uptoBulkAll elems + uptoBulkAll spare + 1
  | .agg parts => uptoBulkAll parts + 1
  | .iface _ d => uptoBulk d + 1
  | .map entries => uptoBulkEntries entries + 1
  | .held _ => 1
def uptoBulkAll {H : Type} : List (DataW H) → Nat
  | [] => 0
  | d :: r => uptoBulk d + uptoBulkAll r
def uptoBulkEntries {H : Type} : List (Lit × DataW H) → Nat
  | [] => 0
  | x :: r => uptoBulkEntry x + uptoBulkEntries r
def uptoBulkEntry {H : Type} : Lit × DataW H → Nat
  | (.string bytes, d) => bytes.length + uptoBulk d + 1
  | (_, d) => uptoBulk d + 1
 end
def uptoSmall : (H : Type) → List (DataW H) → Bool := fun _ ds => decide (uptoBulkAll ds ≤ 1048576)
def OpenSpec.upto (s : _root_.Go.ChangeSpec) : _root_.Go.OpenSpec := { _root_.Go.OpenSpec.ofChange s with cond := some uptoSmall }

/-- 'tollwaylaw44.ReconRounds', WHERE WHAT IT READS IS OF BULK AT MOST 1048576: true; the input reads as it did. -/
def reconRoundsUptoRow : OpenClaim := { program := "ytmjbbpappigngaagreat", sum := "3f32f7ada94b2c0d568b65dec8eb2952d5a00c568644294f86217cdbc22b683b", func := "tollway/tollwaylaw44.ReconRounds", spec := "reconRounds", inPlace := ["internal/bytealg.abigen_runtime_cmpstring"], unfollowed := true, recurses := true, apart := false, narrowed := true }
def ReconRoundsUptoSaid : Prop := reconRoundsUptoRow.holds Tryz.pinned (OpenSpec.upto reconRoundsSpec)

/-- 'tollwaylaw44.ReconChanged', WHERE WHAT IT READS IS OF BULK AT MOST 1048576: true; the input reads as it did. -/
def reconChangedUptoRow : OpenClaim := { program := "ytmjbbpappigngaagreat", sum := "3f32f7ada94b2c0d568b65dec8eb2952d5a00c568644294f86217cdbc22b683b", func := "tollway/tollwaylaw44.ReconChanged", spec := "reconChanged", inPlace := ["internal/bytealg.abigen_runtime_cmpstring"], unfollowed := true, recurses := true, apart := false, narrowed := true }
def ReconChangedUptoSaid : Prop := reconChangedUptoRow.holds Tryz.pinned (OpenSpec.upto reconChangedSpec)

/-- 'tollwaylaw44.ReconSettles', WHERE WHAT IT READS IS OF BULK AT MOST 1048576: true; the input reads as it did. -/
def reconSettlesUptoRow : OpenClaim := { program := "ytmjbbpappigngaagreat", sum := "3f32f7ada94b2c0d568b65dec8eb2952d5a00c568644294f86217cdbc22b683b", func := "tollway/tollwaylaw44.ReconSettles", spec := "reconSettles", inPlace := ["internal/bytealg.abigen_runtime_cmpstring"], unfollowed := true, recurses := true, apart := false, narrowed := true }
def ReconSettlesUptoSaid : Prop := reconSettlesUptoRow.holds Tryz.pinned (OpenSpec.upto reconSettlesSpec)

end Rows
end Go.Proofs.YtmjbbpappigngaaGreat
