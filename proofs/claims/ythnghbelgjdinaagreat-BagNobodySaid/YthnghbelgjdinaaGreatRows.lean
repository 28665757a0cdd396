/-
  NARROWER THAN 'FOR EVERY INPUT', by the rows' own cells (each row's printed sentence says how): BagNobody: loops · EntryCodes: loops · EntrySames: loops.
  DERIVED. THE GIVEN ROWS OF THIS SEAT. 5 by the template 'for every input the law returns true; each argument reads behind the call as it read before'; 0 by the template 'total and deterministic' (their statements: YthnghbelgjdinaaGreatTotals.lean).
  GIVEN WITH THE SEED: the statements are not yours to turn. If you find one false, say at which input.
  Laid BY PROGRAM, IN A SANDBOX (cutbox-rows.mjs): the forced cells as the released guide's own fill.sh prints them over the translation bfcd30c3d43d36ef… (all of the seat's roots in one cut). By AI agents, Wed Nov 11 2026. No macro, syntax, notation, axiom, sorry.
-/
import Derived.Test.YthnghbelgjdinaaGreatChecked
import GoSem.Claim
import GoSem.ClaimJoined
import GoSem.ClaimMapViews
import Derived.JoinedTies
import Derived.KernelRfl
namespace Go.Proofs.YthnghbelgjdinaaGreat
/- THE CELL 'sum', in the pinned program and in every row, IS THE sha256 OF THE DUMP (.gsa) THAT YthnghbelgjdinaaGreatProg.lean LOADS. Nothing in Lean hashes anything: it is a label: what it is worth is what the hold of that sum in a sandbox is worth. -/
noncomputable def Tryz.pinned : Pinned := { name := "ythnghbelgjdinaagreat", sum := "bfcd30c3d43d36ef6182e363235fbd0f01c03875bda1e56528711200779f75e6", checked := Tryz.checked }
namespace Rows
def none {H : Type} : Left H := { results := [], args := [] }

/-- 'tributarylaw25.BagNobody': WHATEVER THE INPUT: true; the input reads as it did. -/
def bagNobodySpec : ChangeSpec := { name := "bagNobody", fn := fun _ => fun
  | [d] => { results := [.lit (.bool true)], args := [d] }
  | _ => none }
def bagNobodyRow : OpenClaim := { program := "ythnghbelgjdinaagreat", sum := "bfcd30c3d43d36ef6182e363235fbd0f01c03875bda1e56528711200779f75e6", func := "tributary/tributarylaw25.BagNobody", spec := "bagNobody", inPlace := ["internal/bytealg.IndexByteString", "internal/bytealg.IndexString", "internal/bytealg.abigen_runtime_cmpstring"], unfollowed := true, recurses := true, named := ["internal/bytealg.MaxLen"], loops := true, apart := false }
def BagNobodySaid : Prop := bagNobodyRow.holds Tryz.pinned (OpenSpec.ofChange bagNobodySpec)

/-- ITS FALSE NEIGHBOUR: 'it returns false'. Refute it at one input. -/
def bagNobodyWrong : ChangeSpec := { name := "bagNobody", fn := fun _ => fun
  | [d] => { results := [.lit (.bool false)], args := [d] }
  | _ => none }
def BagNobodyWrongFalsely : Prop := bagNobodyRow.holds Tryz.pinned (OpenSpec.ofChange bagNobodyWrong)

/-- 'tributarylaw13.EntryCodes': WHATEVER THE INPUT: true; the input reads as it did. -/
def entryCodesSpec : ChangeSpec := { name := "entryCodes", fn := fun _ => fun
  | [d] => { results := [.lit (.bool true)], args := [d] }
  | _ => none }
def entryCodesRow : OpenClaim := { program := "ythnghbelgjdinaagreat", sum := "bfcd30c3d43d36ef6182e363235fbd0f01c03875bda1e56528711200779f75e6", func := "tributary/tributarylaw13.EntryCodes", spec := "entryCodes", inPlace := ["internal/bytealg.IndexByteString", "internal/bytealg.IndexString", "internal/bytealg.abigen_runtime_cmpstring"], unfollowed := true, recurses := true, named := ["internal/bytealg.MaxLen"], loops := true, apart := false }
def EntryCodesSaid : Prop := entryCodesRow.holds Tryz.pinned (OpenSpec.ofChange entryCodesSpec)

/-- ITS FALSE NEIGHBOUR: 'it returns false'. Refute it at one input. -/
def entryCodesWrong : ChangeSpec := { name := "entryCodes", fn := fun _ => fun
  | [d] => { results := [.lit (.bool false)], args := [d] }
  | _ => none }
def EntryCodesWrongFalsely : Prop := entryCodesRow.holds Tryz.pinned (OpenSpec.ofChange entryCodesWrong)

/-- 'tributarylaw13.EntryDecodes': WHATEVER THE INPUT: true; the input reads as it did. -/
def entryDecodesSpec : ChangeSpec := { name := "entryDecodes", fn := fun _ => fun
  | [d] => { results := [.lit (.bool true)], args := [d] }
  | _ => none }
def entryDecodesRow : OpenClaim := { program := "ythnghbelgjdinaagreat", sum := "bfcd30c3d43d36ef6182e363235fbd0f01c03875bda1e56528711200779f75e6", func := "tributary/tributarylaw13.EntryDecodes", spec := "entryDecodes", inPlace := ["internal/bytealg.IndexByteString", "internal/bytealg.IndexString", "internal/bytealg.abigen_runtime_cmpstring"], unfollowed := true, recurses := true, named := ["internal/bytealg.MaxLen"], apart := false }
def EntryDecodesSaid : Prop := entryDecodesRow.holds Tryz.pinned (OpenSpec.ofChange entryDecodesSpec)

/-- ITS FALSE NEIGHBOUR: 'it returns false'. Refute it at one input. -/
def entryDecodesWrong : ChangeSpec := { name := "entryDecodes", fn := fun _ => fun
  | [d] => { results := [.lit (.bool false)], args := [d] }
  | _ => none }
def EntryDecodesWrongFalsely : Prop := entryDecodesRow.holds Tryz.pinned (OpenSpec.ofChange entryDecodesWrong)

/-- 'tributarylaw13.EntryReads': WHATEVER THE INPUT: true; the input reads as it did. -/
def entryReadsSpec : ChangeSpec := { name := "entryReads", fn := fun _ => fun
  | [d1, d2] => { results := [.lit (.bool true)], args := [d1, d2] }
  | _ => none }
def entryReadsRow : OpenClaim := { program := "ythnghbelgjdinaagreat", sum := "bfcd30c3d43d36ef6182e363235fbd0f01c03875bda1e56528711200779f75e6", func := "tributary/tributarylaw13.EntryReads", spec := "entryReads", inPlace := ["internal/bytealg.IndexByteString", "internal/bytealg.IndexString", "internal/bytealg.abigen_runtime_cmpstring"], unfollowed := true, recurses := true, named := ["internal/bytealg.MaxLen"], apart := false }
def EntryReadsSaid : Prop := entryReadsRow.holds Tryz.pinned (OpenSpec.ofChange entryReadsSpec)

/-- ITS FALSE NEIGHBOUR: 'it returns false'. Refute it at one input. -/
def entryReadsWrong : ChangeSpec := { name := "entryReads", fn := fun _ => fun
  | [d1, d2] => { results := [.lit (.bool false)], args := [d1, d2] }
  | _ => none }
def EntryReadsWrongFalsely : Prop := entryReadsRow.holds Tryz.pinned (OpenSpec.ofChange entryReadsWrong)

/-- 'tributarylaw13.EntrySames': WHATEVER THE INPUT: true; the input reads as it did. -/
def entrySamesSpec : ChangeSpec := { name := "entrySames", fn := fun _ => fun
  | [d1, d2] => { results := [.lit (.bool true)], args := [d1, d2] }
  | _ => none }
def entrySamesRow : OpenClaim := { program := "ythnghbelgjdinaagreat", sum := "bfcd30c3d43d36ef6182e363235fbd0f01c03875bda1e56528711200779f75e6", func := "tributary/tributarylaw13.EntrySames", spec := "entrySames", inPlace := ["internal/bytealg.IndexByteString", "internal/bytealg.IndexString", "internal/bytealg.abigen_runtime_cmpstring"], unfollowed := true, recurses := true, named := ["internal/bytealg.MaxLen"], loops := true, apart := false }
def EntrySamesSaid : Prop := entrySamesRow.holds Tryz.pinned (OpenSpec.ofChange entrySamesSpec)

/-- ITS FALSE NEIGHBOUR: 'it returns false'. Refute it at one input. -/
def entrySamesWrong : ChangeSpec := { name := "entrySames", fn := fun _ => fun
  | [d1, d2] => { results := [.lit (.bool false)], args := [d1, d2] }
  | _ => none }
def EntrySamesWrongFalsely : Prop := entrySamesRow.holds Tryz.pinned (OpenSpec.ofChange entrySamesWrong)

/- THE SECOND FORM. 'bulk': how many values and letters a reading holds, each counted each time it is reached (what is shared counts as often as it is met; a slice's spare places count too). A statement '..UptoSaid' is the law's where the arguments, and the package variables that the reading takes, are together of bulk at most 1048576: NARROWER than '..Said'. Prove '..Said' where nothing that the law and all that it calls make is longer than what came in: it says more and counts as full. Else prove '..UptoSaid'. A law counts once. -/
mutual
def uptoBulk {H : Type} : DataW H → Nat
  | .lit (.string bytes) => bytes.length + 1
  | .lit _ => 1
  | .nil => 1
  | .ptr d => uptoBulk d + 1
  | .slice elems spare => uptoBulkAll elems + uptoBulkAll spare + 1
  | .agg parts => uptoBulkAll parts + 1
  | .iface _ d => uptoBulk d + 1
  | .map entries => uptoBulkEntries entries + 1
  | .held _ => 1
def uptoBulkAll {H : Type} : List (DataW H) → Nat
  | [] => 0
  | d :: r => uptoBulk d + uptoBulkAll r
def uptoBulkEntries {H : Type} : List (Lit × DataW H) → Nat
  | [] => 0
  | x :: r => uptoBulkEntry x + uptoBulkEntries r
def uptoBulkEntry {H : Type} : Lit × DataW H → Nat
  | (.string bytes, d) => bytes.length + uptoBulk d + 1
  | (_, d) => uptoBulk d + 1
 end
def uptoSmall : (H : Type) → List (DataW H) → Bool := fun _ ds => decide (uptoBulkAll ds ≤ 1048576)
def OpenSpec.upto (s : _root_.Go.ChangeSpec) : _root_.Go.OpenSpec := { _root_.Go.OpenSpec.ofChange s with cond := some uptoSmall }

/-- 'tributarylaw25.BagNobody', WHERE WHAT IT READS IS OF BULK AT MOST 1048576: true; the input reads as it did. -/
def bagNobodyUptoRow : OpenClaim := { program := "ythnghbelgjdinaagreat", sum := "bfcd30c3d43d36ef6182e363235fbd0f01c03875bda1e56528711200779f75e6", func := "tributary/tributarylaw25.BagNobody", spec := "bagNobody", inPlace := ["internal/bytealg.IndexByteString", "internal/bytealg.IndexString", "internal/bytealg.abigen_runtime_cmpstring"], unfollowed := true, recurses := true, named := ["internal/bytealg.MaxLen"], loops := true, apart := false, narrowed := true }
def BagNobodyUptoSaid : Prop := bagNobodyUptoRow.holds Tryz.pinned (OpenSpec.upto bagNobodySpec)

/-- 'tributarylaw13.EntryCodes', WHERE WHAT IT READS IS OF BULK AT MOST 1048576: true; the input reads as it did. -/
def entryCodesUptoRow : OpenClaim := { program := "ythnghbelgjdinaagreat", sum := "bfcd30c3d43d36ef6182e363235fbd0f01c03875bda1e56528711200779f75e6", func := "tributary/tributarylaw13.EntryCodes", spec := "entryCodes", inPlace := ["internal/bytealg.IndexByteString", "internal/bytealg.IndexString", "internal/bytealg.abigen_runtime_cmpstring"], unfollowed := true, recurses := true, named := ["internal/bytealg.MaxLen"], loops := true, apart := false, narrowed := true }
def EntryCodesUptoSaid : Prop := entryCodesUptoRow.holds Tryz.pinned (OpenSpec.upto entryCodesSpec)

/-- 'tributarylaw13.EntryDecodes', WHERE WHAT IT READS IS OF BULK AT MOST 1048576: true; the input reads as it did. -/
def entryDecodesUptoRow : OpenClaim := { program := "ythnghbelgjdinaagreat", sum := "bfcd30c3d43d36ef6182e363235fbd0f01c03875bda1e56528711200779f75e6", func := "tributary/tributarylaw13.EntryDecodes", spec := "entryDecodes", inPlace := ["internal/bytealg.IndexByteString", "internal/bytealg.IndexString", "internal/bytealg.abigen_runtime_cmpstring"], unfollowed := true, recurses := true, named := ["internal/bytealg.MaxLen"], apart := false, narrowed := true }
def EntryDecodesUptoSaid : Prop := entryDecodesUptoRow.holds Tryz.pinned (OpenSpec.upto entryDecodesSpec)

/-- 'tributarylaw13.EntryReads', WHERE WHAT IT READS IS OF BULK AT MOST 1048576: true; the input reads as it did. -/
def entryReadsUptoRow : OpenClaim := { program := "ythnghbelgjdinaagreat", sum := "bfcd30c3d43d36ef6182e363235fbd0f01c03875bda1e56528711200779f75e6", func := "tributary/tributarylaw13.EntryReads", spec := "entryReads", inPlace := ["internal/bytealg.IndexByteString", "internal/bytealg.IndexString", "internal/bytealg.abigen_runtime_cmpstring"], unfollowed := true, recurses := true, named := ["internal/bytealg.MaxLen"], apart := false, narrowed := true }
def EntryReadsUptoSaid : Prop := entryReadsUptoRow.holds Tryz.pinned (OpenSpec.upto entryReadsSpec)

/-- 'tributarylaw13.EntrySames', WHERE WHAT IT READS IS OF BULK AT MOST 1048576: true; the input reads as it did. -/
def entrySamesUptoRow : OpenClaim := { program := "ythnghbelgjdinaagreat", sum := "bfcd30c3d43d36ef6182e363235fbd0f01c03875bda1e56528711200779f75e6", func := "tributary/tributarylaw13.EntrySames", spec := "entrySames", inPlace := ["internal/bytealg.IndexByteString", "internal/bytealg.IndexString", "internal/bytealg.abigen_runtime_cmpstring"], unfollowed := true, recurses := true, named := ["internal/bytealg.MaxLen"], loops := true, apart := false, narrowed := true }
def EntrySamesUptoSaid : Prop := entrySamesUptoRow.holds Tryz.pinned (OpenSpec.upto entrySamesSpec)

end Rows
end Go.Proofs.YthnghbelgjdinaaGreat
