/-
  NARROWER THAN 'FOR EVERY INPUT', by the rows' own cells (each row's printed sentence says how): CheckForms: loops · CheckTypes: loops · TermForms: loops · TermValid: loops · TermOwn: loops.
  DERIVED. THE GIVEN ROWS OF THIS SEAT. 5 by the template 'for every input the law returns true; each argument reads behind the call as it read before'; 0 by the template 'total and deterministic' (their statements: YtppoacgeiooppaaGreatTotals.lean).
  GIVEN WITH THE SEED: the statements are not yours to turn. If you find one false, say at which input.
  Laid BY PROGRAM, IN A SANDBOX (cutbox-rows.mjs): the forced cells as the released guide's own fill.sh prints them over the translation 1d852ec987d2c330… (all of the seat's roots in one cut). By AI agents, Wed Nov 11 2026. No macro, syntax, notation, axiom, sorry.
-/
import Derived.Test.YtppoacgeiooppaaGreatChecked
import GoSem.Claim
import GoSem.ClaimJoined
import GoSem.ClaimMapViews
import Derived.JoinedTies
import Derived.KernelRfl
namespace Go.Proofs.YtppoacgeiooppaaGreat
/- THE CELL 'sum', in the pinned program and in every row, IS THE sha256 OF THE DUMP (.gsa) THAT YtppoacgeiooppaaGreatProg.lean LOADS. Nothing in Lean hashes anything: it is a label: what it is worth is what the hold of that sum in a sandbox is worth. -/
noncomputable def Tryz.pinned : Pinned := { name := "ytppoacgeiooppaagreat", sum := "1d852ec987d2c330149e93ff9c341269cc6d59630bd8233dbcdc62a75739a912", checked := Tryz.checked }
namespace Rows
def none {H : Type} : Left H := { results := [], args := [] }

/-- 'chiasmuslaw04.CheckForms': WHATEVER THE INPUT: true; the input reads as it did. -/
def checkFormsSpec : ChangeSpec := { name := "checkForms", fn := fun _ => fun
  | [d] => { results := [.lit (.bool true)], args := [d] }
  | _ => none }
def checkFormsRow : OpenClaim := { program := "ytppoacgeiooppaagreat", sum := "1d852ec987d2c330149e93ff9c341269cc6d59630bd8233dbcdc62a75739a912", func := "chiasmus/chiasmuslaw04.CheckForms", spec := "checkForms", inPlace := ["internal/bytealg.IndexByteString", "internal/bytealg.IndexString", "maps.clone"], unfollowed := true, recurses := true, named := ["internal/bytealg.MaxLen"], loops := true, apart := false }
def CheckFormsSaid : Prop := checkFormsRow.holds Tryz.pinned (OpenSpec.ofChange checkFormsSpec)

/-- ITS FALSE NEIGHBOUR: 'it returns false'. Refute it at one input. -/
def checkFormsWrong : ChangeSpec := { name := "checkForms", fn := fun _ => fun
  | [d] => { results := [.lit (.bool false)], args := [d] }
  | _ => none }
def CheckFormsWrongFalsely : Prop := checkFormsRow.holds Tryz.pinned (OpenSpec.ofChange checkFormsWrong)

/-- 'chiasmuslaw04.CheckTypes': WHATEVER THE INPUT: true; the input reads as it did. -/
def checkTypesSpec : ChangeSpec := { name := "checkTypes", fn := fun _ => fun
  | [d1, d2, d3, d4] => { results := [.lit (.bool true)], args := [d1, d2, d3, d4] }
  | _ => none }
def checkTypesRow : OpenClaim := { program := "ytppoacgeiooppaagreat", sum := "1d852ec987d2c330149e93ff9c341269cc6d59630bd8233dbcdc62a75739a912", func := "chiasmus/chiasmuslaw04.CheckTypes", spec := "checkTypes", inPlace := ["internal/bytealg.IndexByteString", "internal/bytealg.IndexString", "maps.clone"], unfollowed := true, recurses := true, named := ["internal/bytealg.MaxLen"], loops := true, apart := false }
def CheckTypesSaid : Prop := checkTypesRow.holds Tryz.pinned (OpenSpec.ofChange checkTypesSpec)

/-- ITS FALSE NEIGHBOUR: 'it returns false'. Refute it at one input. -/
def checkTypesWrong : ChangeSpec := { name := "checkTypes", fn := fun _ => fun
  | [d1, d2, d3, d4] => { results := [.lit (.bool false)], args := [d1, d2, d3, d4] }
  | _ => none }
def CheckTypesWrongFalsely : Prop := checkTypesRow.holds Tryz.pinned (OpenSpec.ofChange checkTypesWrong)

/-- 'chiasmuslaw02.TermForms': WHATEVER THE INPUT: true; the input reads as it did. -/
def termFormsSpec : ChangeSpec := { name := "termForms", fn := fun _ => fun
  | [d] => { results := [.lit (.bool true)], args := [d] }
  | _ => none }
def termFormsRow : OpenClaim := { program := "ytppoacgeiooppaagreat", sum := "1d852ec987d2c330149e93ff9c341269cc6d59630bd8233dbcdc62a75739a912", func := "chiasmus/chiasmuslaw02.TermForms", spec := "termForms", inPlace := ["internal/bytealg.IndexByteString", "internal/bytealg.IndexString", "maps.clone"], unfollowed := true, recurses := true, named := ["internal/bytealg.MaxLen"], loops := true, apart := false }
def TermFormsSaid : Prop := termFormsRow.holds Tryz.pinned (OpenSpec.ofChange termFormsSpec)

/-- ITS FALSE NEIGHBOUR: 'it returns false'. Refute it at one input. -/
def termFormsWrong : ChangeSpec := { name := "termForms", fn := fun _ => fun
  | [d] => { results := [.lit (.bool false)], args := [d] }
  | _ => none }
def TermFormsWrongFalsely : Prop := termFormsRow.holds Tryz.pinned (OpenSpec.ofChange termFormsWrong)

/-- 'chiasmuslaw02.TermValid': WHATEVER THE INPUT: true; the input reads as it did. -/
def termValidSpec : ChangeSpec := { name := "termValid", fn := fun _ => fun
  | [d1, d2, d3, d4] => { results := [.lit (.bool true)], args := [d1, d2, d3, d4] }
  | _ => none }
def termValidRow : OpenClaim := { program := "ytppoacgeiooppaagreat", sum := "1d852ec987d2c330149e93ff9c341269cc6d59630bd8233dbcdc62a75739a912", func := "chiasmus/chiasmuslaw02.TermValid", spec := "termValid", inPlace := ["internal/bytealg.IndexByteString", "internal/bytealg.IndexString", "maps.clone"], unfollowed := true, recurses := true, named := ["internal/bytealg.MaxLen"], loops := true, apart := false }
def TermValidSaid : Prop := termValidRow.holds Tryz.pinned (OpenSpec.ofChange termValidSpec)

/-- ITS FALSE NEIGHBOUR: 'it returns false'. Refute it at one input. -/
def termValidWrong : ChangeSpec := { name := "termValid", fn := fun _ => fun
  | [d1, d2, d3, d4] => { results := [.lit (.bool false)], args := [d1, d2, d3, d4] }
  | _ => none }
def TermValidWrongFalsely : Prop := termValidRow.holds Tryz.pinned (OpenSpec.ofChange termValidWrong)

/-- 'chiasmuslaw02.TermOwn': WHATEVER THE INPUT: true; the input reads as it did. -/
def termOwnSpec : ChangeSpec := { name := "termOwn", fn := fun _ => fun
  | [d1, d2, d3, d4] => { results := [.lit (.bool true)], args := [d1, d2, d3, d4] }
  | _ => none }
def termOwnRow : OpenClaim := { program := "ytppoacgeiooppaagreat", sum := "1d852ec987d2c330149e93ff9c341269cc6d59630bd8233dbcdc62a75739a912", func := "chiasmus/chiasmuslaw02.TermOwn", spec := "termOwn", inPlace := ["internal/bytealg.IndexByteString", "internal/bytealg.IndexString", "maps.clone"], unfollowed := true, recurses := true, named := ["internal/bytealg.MaxLen"], loops := true, apart := false }
def TermOwnSaid : Prop := termOwnRow.holds Tryz.pinned (OpenSpec.ofChange termOwnSpec)

/-- ITS FALSE NEIGHBOUR: 'it returns false'. Refute it at one input. -/
def termOwnWrong : ChangeSpec := { name := "termOwn", fn := fun _ => fun
  | [d1, d2, d3, d4] => { results := [.lit (.bool false)], args := [d1, d2, d3, d4] }
  | _ => none }
def TermOwnWrongFalsely : Prop := termOwnRow.holds Tryz.pinned (OpenSpec.ofChange termOwnWrong)

/- THE SECOND FORM. 'bulk': how many values and letters a reading holds, each counted each time it is reached (what is shared counts as often as it is met; a slice's spare places count too). A statement '..UptoSaid' is the law's where the arguments, and the package variables that the reading takes, are together of bulk at most 1048576: NARROWER than '..Said'. Prove '..Said' where nothing that the law and all that it calls make is longer than what came in: it says more and counts as full. Else prove '..UptoSaid'. A law counts once. -/
mutual
def uptoBulk {H : Type} : DataW H → Nat
  | .lit (.string bytes) => bytes.length + 1
  | .lit _ => 1
  | .nil => 1
  | .ptr d => uptoBulk d + 1
  | .slice elems spare => uptoBulkAll elems + uptoBulkAll spare + 1
  | .agg parts => uptoBulkAll parts + 1
  | .iface _ d => uptoBulk d + 1
  | .map entries => uptoBulkEntries entries + 1
  | .held _ => 1
def uptoBulkAll {H : Type} : List (DataW H) → Nat
  | [] => 0
  | d :: r => uptoBulk d + uptoBulkAll r
def uptoBulkEntries {H : Type} : List (Lit × DataW H) → Nat
  | [] => 0
  | x :: r => uptoBulkEntry x + uptoBulkEntries r
def uptoBulkEntry {H : Type} : Lit × DataW H → Nat
  | (.string bytes, d) => bytes.length + uptoBulk d + 1
  | (_, d) => uptoBulk d + 1
 end
def uptoSmall : (H : Type) → List (DataW H) → Bool := fun _ ds => decide (uptoBulkAll ds ≤ 1048576)
def OpenSpec.upto (s : _root_.Go.ChangeSpec) : _root_.Go.OpenSpec := { _root_.Go.OpenSpec.ofChange s with cond := some uptoSmall }

/-- 'chiasmuslaw04.CheckForms', WHERE WHAT IT READS IS OF BULK AT MOST 1048576: true; the input reads as it did. -/
def checkFormsUptoRow : OpenClaim := { program := "ytppoacgeiooppaagreat", sum := "1d852ec987d2c330149e93ff9c341269cc6d59630bd8233dbcdc62a75739a912", func := "chiasmus/chiasmuslaw04.CheckForms", spec := "checkForms", inPlace := ["internal/bytealg.IndexByteString", "internal/bytealg.IndexString", "maps.clone"], unfollowed := true, recurses := true, named := ["internal/bytealg.MaxLen"], loops := true, apart := false, narrowed := true }
def CheckFormsUptoSaid : Prop := checkFormsUptoRow.holds Tryz.pinned (OpenSpec.upto checkFormsSpec)

/-- 'chiasmuslaw04.CheckTypes', WHERE WHAT IT READS IS OF BULK AT MOST 1048576: true; the input reads as it did. -/
def checkTypesUptoRow : OpenClaim := { program := "ytppoacgeiooppaagreat", sum := "1d852ec987d2c330149e93ff9c341269cc6d59630bd8233dbcdc62a75739a912", func := "chiasmus/chiasmuslaw04.CheckTypes", spec := "checkTypes", inPlace := ["internal/bytealg.IndexByteString", "internal/bytealg.IndexString", "maps.clone"], unfollowed := true, recurses := true, named := ["internal/bytealg.MaxLen"], loops := true, apart := false, narrowed := true }
def CheckTypesUptoSaid : Prop := checkTypesUptoRow.holds Tryz.pinned (OpenSpec.upto checkTypesSpec)

/-- 'chiasmuslaw02.TermForms', WHERE WHAT IT READS IS OF BULK AT MOST 1048576: true; the input reads as it did. -/
def termFormsUptoRow : OpenClaim := { program := "ytppoacgeiooppaagreat", sum := "1d852ec987d2c330149e93ff9c341269cc6d59630bd8233dbcdc62a75739a912", func := "chiasmus/chiasmuslaw02.TermForms", spec := "termForms", inPlace := ["internal/bytealg.IndexByteString", "internal/bytealg.IndexString", "maps.clone"], unfollowed := true, recurses := true, named := ["internal/bytealg.MaxLen"], loops := true, apart := false, narrowed := true }
def TermFormsUptoSaid : Prop := termFormsUptoRow.holds Tryz.pinned (OpenSpec.upto termFormsSpec)

/-- 'chiasmuslaw02.TermValid', WHERE WHAT IT READS IS OF BULK AT MOST 1048576: true; the input reads as it did. -/
def termValidUptoRow : OpenClaim := { program := "ytppoacgeiooppaagreat", sum := "1d852ec987d2c330149e93ff9c341269cc6d59630bd8233dbcdc62a75739a912", func := "chiasmus/chiasmuslaw02.TermValid", spec := "termValid", inPlace := ["internal/bytealg.IndexByteString", "internal/bytealg.IndexString", "maps.clone"], unfollowed := true, recurses := true, named := ["internal/bytealg.MaxLen"], loops := true, apart := false, narrowed := true }
def TermValidUptoSaid : Prop := termValidUptoRow.holds Tryz.pinned (OpenSpec.upto termValidSpec)

/-- 'chiasmuslaw02.TermOwn', WHERE WHAT IT READS IS OF BULK AT MOST 1048576: true; the input reads as it did. -/
def termOwnUptoRow : OpenClaim := { program := "ytppoacgeiooppaagreat", sum := "1d852ec987d2c330149e93ff9c341269cc6d59630bd8233dbcdc62a75739a912", func := "chiasmus/chiasmuslaw02.TermOwn", spec := "termOwn", inPlace := ["internal/bytealg.IndexByteString", "internal/bytealg.IndexString", "maps.clone"], unfollowed := true, recurses := true, named := ["internal/bytealg.MaxLen"], loops := true, apart := false, narrowed := true }
def TermOwnUptoSaid : Prop := termOwnUptoRow.holds Tryz.pinned (OpenSpec.upto termOwnSpec)

end Rows
end Go.Proofs.YtppoacgeiooppaaGreat
