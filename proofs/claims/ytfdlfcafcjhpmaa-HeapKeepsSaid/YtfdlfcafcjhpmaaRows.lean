/-
  No cell of these rows narrows 'for every input' (looked for: loops, veiled, ifaces, maps, wideKeys, modest, calm, conditions, laid).
  DERIVED. THE GIVEN ROWS OF THIS SEAT. 10 by the template 'for every input the law returns true; each argument reads behind the call as it read before'; 0 by the template 'total and deterministic' (their statements: YtfdlfcafcjhpmaaTotals.lean).
  GIVEN WITH THE SEED: the statements are not yours to turn. If you find one false, say at which input.
  Laid BY PROGRAM, IN A SANDBOX (cutbox-rows.mjs): the forced cells as the released guide's own fill.sh prints them over the translation d180c256252849f7… (all of the seat's roots in one cut). By AI agents, Wed Nov 11 2026. No macro, syntax, notation, axiom, sorry.
-/
import Derived.Test.YtfdlfcafcjhpmaaChecked
import GoSem.Claim
import GoSem.ClaimJoined
import GoSem.ClaimMapViews
import Derived.JoinedTies
import Derived.KernelRfl
namespace Go.Proofs.Ytfdlfcafcjhpmaa
/- THE CELL 'sum', in the pinned program and in every row, IS THE sha256 OF THE DUMP (.gsa) THAT YtfdlfcafcjhpmaaProg.lean LOADS. Nothing in Lean hashes anything: it is a label: what it is worth is what the hold of that sum in a sandbox is worth. -/
noncomputable def Try.pinned : Pinned := { name := "ytfdlfcafcjhpmaa", sum := "d180c256252849f73713819f42ba6d1d6f9667ccb059c068effce7d45f299c3e", checked := Try.checked }
namespace Rows
def none {H : Type} : Left H := { results := [], args := [] }

/-- 'chiasmuslaw17.HeapDoes': WHATEVER THE INPUT: true; the input reads as it did. -/
def heapDoesSpec : ChangeSpec := { name := "heapDoes", fn := fun _ => fun
  | [d1, d2] => { results := [.lit (.bool true)], args := [d1, d2] }
  | _ => none }
def heapDoesRow : OpenClaim := { program := "ytfdlfcafcjhpmaa", sum := "d180c256252849f73713819f42ba6d1d6f9667ccb059c068effce7d45f299c3e", func := "chiasmus/chiasmuslaw17.HeapDoes", spec := "heapDoes", unfollowed := true, recurses := true, apart := false }
def HeapDoesSaid : Prop := heapDoesRow.holds Try.pinned (OpenSpec.ofChange heapDoesSpec)

/-- ITS FALSE NEIGHBOUR: 'it returns false'. Refute it at one input. -/
def heapDoesWrong : ChangeSpec := { name := "heapDoes", fn := fun _ => fun
  | [d1, d2] => { results := [.lit (.bool false)], args := [d1, d2] }
  | _ => none }
def HeapDoesWrongFalsely : Prop := heapDoesRow.holds Try.pinned (OpenSpec.ofChange heapDoesWrong)

/-- 'chiasmuslaw17.HeapForks': WHATEVER THE INPUT: true; the input reads as it did. -/
def heapForksSpec : ChangeSpec := { name := "heapForks", fn := fun _ => fun
  | [d1, d2, d3, d4] => { results := [.lit (.bool true)], args := [d1, d2, d3, d4] }
  | _ => none }
def heapForksRow : OpenClaim := { program := "ytfdlfcafcjhpmaa", sum := "d180c256252849f73713819f42ba6d1d6f9667ccb059c068effce7d45f299c3e", func := "chiasmus/chiasmuslaw17.HeapForks", spec := "heapForks", unfollowed := true, recurses := true, apart := false }
def HeapForksSaid : Prop := heapForksRow.holds Try.pinned (OpenSpec.ofChange heapForksSpec)

/-- ITS FALSE NEIGHBOUR: 'it returns false'. Refute it at one input. -/
def heapForksWrong : ChangeSpec := { name := "heapForks", fn := fun _ => fun
  | [d1, d2, d3, d4] => { results := [.lit (.bool false)], args := [d1, d2, d3, d4] }
  | _ => none }
def HeapForksWrongFalsely : Prop := heapForksRow.holds Try.pinned (OpenSpec.ofChange heapForksWrong)

/-- 'chiasmuslaw17.HeapSame': WHATEVER THE INPUT: true; the input reads as it did. -/
def heapSameSpec : ChangeSpec := { name := "heapSame", fn := fun _ => fun
  | [d1, d2, d3, d4, d5] => { results := [.lit (.bool true)], args := [d1, d2, d3, d4, d5] }
  | _ => none }
def heapSameRow : OpenClaim := { program := "ytfdlfcafcjhpmaa", sum := "d180c256252849f73713819f42ba6d1d6f9667ccb059c068effce7d45f299c3e", func := "chiasmus/chiasmuslaw17.HeapSame", spec := "heapSame", unfollowed := true, recurses := true, apart := false }
def HeapSameSaid : Prop := heapSameRow.holds Try.pinned (OpenSpec.ofChange heapSameSpec)

/-- ITS FALSE NEIGHBOUR: 'it returns false'. Refute it at one input. -/
def heapSameWrong : ChangeSpec := { name := "heapSame", fn := fun _ => fun
  | [d1, d2, d3, d4, d5] => { results := [.lit (.bool false)], args := [d1, d2, d3, d4, d5] }
  | _ => none }
def HeapSameWrongFalsely : Prop := heapSameRow.holds Try.pinned (OpenSpec.ofChange heapSameWrong)

/-- 'chiasmuslaw17.HeapKeeps': WHATEVER THE INPUT: true; the input reads as it did. -/
def heapKeepsSpec : ChangeSpec := { name := "heapKeeps", fn := fun _ => fun
  | [d1, d2, d3] => { results := [.lit (.bool true)], args := [d1, d2, d3] }
  | _ => none }
def heapKeepsRow : OpenClaim := { program := "ytfdlfcafcjhpmaa", sum := "d180c256252849f73713819f42ba6d1d6f9667ccb059c068effce7d45f299c3e", func := "chiasmus/chiasmuslaw17.HeapKeeps", spec := "heapKeeps", unfollowed := true, recurses := true, apart := false }
def HeapKeepsSaid : Prop := heapKeepsRow.holds Try.pinned (OpenSpec.ofChange heapKeepsSpec)

/-- ITS FALSE NEIGHBOUR: 'it returns false'. Refute it at one input. -/
def heapKeepsWrong : ChangeSpec := { name := "heapKeeps", fn := fun _ => fun
  | [d1, d2, d3] => { results := [.lit (.bool false)], args := [d1, d2, d3] }
  | _ => none }
def HeapKeepsWrongFalsely : Prop := heapKeepsRow.holds Try.pinned (OpenSpec.ofChange heapKeepsWrong)

/-- 'chiasmuslaw17.HeapNil': WHATEVER THE INPUT: true; the input reads as it did. -/
def heapNilSpec : ChangeSpec := { name := "heapNil", fn := fun _ => fun
  | [d1, d2, d3, d4] => { results := [.lit (.bool true)], args := [d1, d2, d3, d4] }
  | _ => none }
def heapNilRow : OpenClaim := { program := "ytfdlfcafcjhpmaa", sum := "d180c256252849f73713819f42ba6d1d6f9667ccb059c068effce7d45f299c3e", func := "chiasmus/chiasmuslaw17.HeapNil", spec := "heapNil", unfollowed := true, recurses := true, apart := false }
def HeapNilSaid : Prop := heapNilRow.holds Try.pinned (OpenSpec.ofChange heapNilSpec)

/-- ITS FALSE NEIGHBOUR: 'it returns false'. Refute it at one input. -/
def heapNilWrong : ChangeSpec := { name := "heapNil", fn := fun _ => fun
  | [d1, d2, d3, d4] => { results := [.lit (.bool false)], args := [d1, d2, d3, d4] }
  | _ => none }
def HeapNilWrongFalsely : Prop := heapNilRow.holds Try.pinned (OpenSpec.ofChange heapNilWrong)

/-- 'chiasmuslaw01.DeclForms': WHATEVER THE INPUT: true; the input reads as it did. -/
def declFormsSpec : ChangeSpec := { name := "declForms", fn := fun _ => fun
  | [d] => { results := [.lit (.bool true)], args := [d] }
  | _ => none }
def declFormsRow : OpenClaim := { program := "ytfdlfcafcjhpmaa", sum := "d180c256252849f73713819f42ba6d1d6f9667ccb059c068effce7d45f299c3e", func := "chiasmus/chiasmuslaw01.DeclForms", spec := "declForms", inPlace := ["internal/bytealg.IndexByteString", "internal/bytealg.IndexString", "internal/abi.NoEscape", "internal/bytealg.MakeNoZero"], unfollowed := true, recurses := true, named := ["internal/bytealg.MaxLen"], apart := false }
def DeclFormsSaid : Prop := declFormsRow.holds Try.pinned (OpenSpec.ofChange declFormsSpec)

/-- ITS FALSE NEIGHBOUR: 'it returns false'. Refute it at one input. -/
def declFormsWrong : ChangeSpec := { name := "declForms", fn := fun _ => fun
  | [d] => { results := [.lit (.bool false)], args := [d] }
  | _ => none }
def DeclFormsWrongFalsely : Prop := declFormsRow.holds Try.pinned (OpenSpec.ofChange declFormsWrong)

/-- 'chiasmuslaw01.DeclTypes': WHATEVER THE INPUT: true; the input reads as it did. -/
def declTypesSpec : ChangeSpec := { name := "declTypes", fn := fun _ => fun
  | [d1, d2, d3] => { results := [.lit (.bool true)], args := [d1, d2, d3] }
  | _ => none }
def declTypesRow : OpenClaim := { program := "ytfdlfcafcjhpmaa", sum := "d180c256252849f73713819f42ba6d1d6f9667ccb059c068effce7d45f299c3e", func := "chiasmus/chiasmuslaw01.DeclTypes", spec := "declTypes", inPlace := ["internal/bytealg.IndexByteString", "internal/bytealg.IndexString", "internal/abi.NoEscape", "internal/bytealg.MakeNoZero"], unfollowed := true, recurses := true, named := ["internal/bytealg.MaxLen"], apart := false }
def DeclTypesSaid : Prop := declTypesRow.holds Try.pinned (OpenSpec.ofChange declTypesSpec)

/-- ITS FALSE NEIGHBOUR: 'it returns false'. Refute it at one input. -/
def declTypesWrong : ChangeSpec := { name := "declTypes", fn := fun _ => fun
  | [d1, d2, d3] => { results := [.lit (.bool false)], args := [d1, d2, d3] }
  | _ => none }
def DeclTypesWrongFalsely : Prop := declTypesRow.holds Try.pinned (OpenSpec.ofChange declTypesWrong)

/-- 'chiasmuslaw01.DeclFinds': WHATEVER THE INPUT: true; the input reads as it did. -/
def declFindsSpec : ChangeSpec := { name := "declFinds", fn := fun _ => fun
  | [d1, d2] => { results := [.lit (.bool true)], args := [d1, d2] }
  | _ => none }
def declFindsRow : OpenClaim := { program := "ytfdlfcafcjhpmaa", sum := "d180c256252849f73713819f42ba6d1d6f9667ccb059c068effce7d45f299c3e", func := "chiasmus/chiasmuslaw01.DeclFinds", spec := "declFinds", inPlace := ["internal/bytealg.IndexByteString", "internal/bytealg.IndexString", "internal/abi.NoEscape", "internal/bytealg.MakeNoZero"], unfollowed := true, recurses := true, named := ["internal/bytealg.MaxLen"], apart := false }
def DeclFindsSaid : Prop := declFindsRow.holds Try.pinned (OpenSpec.ofChange declFindsSpec)

/-- ITS FALSE NEIGHBOUR: 'it returns false'. Refute it at one input. -/
def declFindsWrong : ChangeSpec := { name := "declFinds", fn := fun _ => fun
  | [d1, d2] => { results := [.lit (.bool false)], args := [d1, d2] }
  | _ => none }
def DeclFindsWrongFalsely : Prop := declFindsRow.holds Try.pinned (OpenSpec.ofChange declFindsWrong)

/-- 'chiasmuslaw01.DeclMore': WHATEVER THE INPUT: true; the input reads as it did. -/
def declMoreSpec : ChangeSpec := { name := "declMore", fn := fun _ => fun
  | [d1, d2] => { results := [.lit (.bool true)], args := [d1, d2] }
  | _ => none }
def declMoreRow : OpenClaim := { program := "ytfdlfcafcjhpmaa", sum := "d180c256252849f73713819f42ba6d1d6f9667ccb059c068effce7d45f299c3e", func := "chiasmus/chiasmuslaw01.DeclMore", spec := "declMore", inPlace := ["internal/bytealg.IndexByteString", "internal/bytealg.IndexString", "internal/abi.NoEscape", "internal/bytealg.MakeNoZero"], unfollowed := true, recurses := true, named := ["internal/bytealg.MaxLen"], apart := false }
def DeclMoreSaid : Prop := declMoreRow.holds Try.pinned (OpenSpec.ofChange declMoreSpec)

/-- ITS FALSE NEIGHBOUR: 'it returns false'. Refute it at one input. -/
def declMoreWrong : ChangeSpec := { name := "declMore", fn := fun _ => fun
  | [d1, d2] => { results := [.lit (.bool false)], args := [d1, d2] }
  | _ => none }
def DeclMoreWrongFalsely : Prop := declMoreRow.holds Try.pinned (OpenSpec.ofChange declMoreWrong)

/-- 'chiasmuslaw01.DeclOwn': WHATEVER THE INPUT: true; the input reads as it did. -/
def declOwnSpec : ChangeSpec := { name := "declOwn", fn := fun _ => fun
  | [d1, d2, d3, d4] => { results := [.lit (.bool true)], args := [d1, d2, d3, d4] }
  | _ => none }
def declOwnRow : OpenClaim := { program := "ytfdlfcafcjhpmaa", sum := "d180c256252849f73713819f42ba6d1d6f9667ccb059c068effce7d45f299c3e", func := "chiasmus/chiasmuslaw01.DeclOwn", spec := "declOwn", inPlace := ["internal/bytealg.IndexByteString", "internal/bytealg.IndexString", "internal/abi.NoEscape", "internal/bytealg.MakeNoZero"], unfollowed := true, recurses := true, named := ["internal/bytealg.MaxLen"], apart := false }
def DeclOwnSaid : Prop := declOwnRow.holds Try.pinned (OpenSpec.ofChange declOwnSpec)

/-- ITS FALSE NEIGHBOUR: 'it returns false'. Refute it at one input. -/
def declOwnWrong : ChangeSpec := { name := "declOwn", fn := fun _ => fun
  | [d1, d2, d3, d4] => { results := [.lit (.bool false)], args := [d1, d2, d3, d4] }
  | _ => none }
def DeclOwnWrongFalsely : Prop := declOwnRow.holds Try.pinned (OpenSpec.ofChange declOwnWrong)

/- THE SECOND FORM. 'bulk': how many values and letters a reading holds, each counted each time it is reached (what is shared counts as often as it is met; a slice's spare places count too). A statement '..UptoSaid' is the law's where the arguments, and the package variables that the reading takes, are together of bulk at most 1048576: NARROWER than '..Said'. Prove '..Said' where nothing that the law and all that it calls make is longer than what came in: it says more and counts as full. Else prove '..UptoSaid'. A law counts once. -/
mutual
def uptoBulk {H : Type} : DataW H → Nat
  | .lit (.string bytes) => bytes.length + 1
  | .lit _ => 1
  | .nil => 1
  | .ptr d => uptoBulk d + 1
  | .slice elems spare => uptoBulkAll elems + uptoBulkAll spare + 1
  | .agg parts => uptoBulkAll parts + 1
  | .iface _ d => uptoBulk d + 1
  | .map entries => uptoBulkEntries entries + 1
  | .held _ => 1
def uptoBulkAll {H : Type} : List (DataW H) → Nat
  | [] => 0
  | d :: r => uptoBulk d + uptoBulkAll r
def uptoBulkEntries {H : Type} : List (Lit × DataW H) → Nat
  | [] => 0
  | x :: r => uptoBulkEntry x + uptoBulkEntries r
def uptoBulkEntry {H : Type} : Lit × DataW H → Nat
  | (.string bytes, d) => bytes.length + uptoBulk d + 1
  | (_, d) => uptoBulk d + 1
 end
def uptoSmall : (H : Type) → List (DataW H) → Bool := fun _ ds => decide (uptoBulkAll ds ≤ 1048576)
def OpenSpec.upto (s : _root_.Go.ChangeSpec) : _root_.Go.OpenSpec := { _root_.Go.OpenSpec.ofChange s with cond := some uptoSmall }

/-- 'chiasmuslaw17.HeapDoes', WHERE WHAT IT READS IS OF BULK AT MOST 1048576: true; the input reads as it did. -/
def heapDoesUptoRow : OpenClaim := { program := "ytfdlfcafcjhpmaa", sum := "d180c256252849f73713819f42ba6d1d6f9667ccb059c068effce7d45f299c3e", func := "chiasmus/chiasmuslaw17.HeapDoes", spec := "heapDoes", unfollowed := true, recurses := true, apart := false, narrowed := true }
def HeapDoesUptoSaid : Prop := heapDoesUptoRow.holds Try.pinned (OpenSpec.upto heapDoesSpec)

/-- 'chiasmuslaw17.HeapForks', WHERE WHAT IT READS IS OF BULK AT MOST 1048576: true; the input reads as it did. -/
def heapForksUptoRow : OpenClaim := { program := "ytfdlfcafcjhpmaa", sum := "d180c256252849f73713819f42ba6d1d6f9667ccb059c068effce7d45f299c3e", func := "chiasmus/chiasmuslaw17.HeapForks", spec := "heapForks", unfollowed := true, recurses := true, apart := false, narrowed := true }
def HeapForksUptoSaid : Prop := heapForksUptoRow.holds Try.pinned (OpenSpec.upto heapForksSpec)

/-- 'chiasmuslaw17.HeapSame', WHERE WHAT IT READS IS OF BULK AT MOST 1048576: true; the input reads as it did. -/
def heapSameUptoRow : OpenClaim := { program := "ytfdlfcafcjhpmaa", sum := "d180c256252849f73713819f42ba6d1d6f9667ccb059c068effce7d45f299c3e", func := "chiasmus/chiasmuslaw17.HeapSame", spec := "heapSame", unfollowed := true, recurses := true, apart := false, narrowed := true }
def HeapSameUptoSaid : Prop := heapSameUptoRow.holds Try.pinned (OpenSpec.upto heapSameSpec)

/-- 'chiasmuslaw17.HeapKeeps', WHERE WHAT IT READS IS OF BULK AT MOST 1048576: true; the input reads as it did. -/
def heapKeepsUptoRow : OpenClaim := { program := "ytfdlfcafcjhpmaa", sum := "d180c256252849f73713819f42ba6d1d6f9667ccb059c068effce7d45f299c3e", func := "chiasmus/chiasmuslaw17.HeapKeeps", spec := "heapKeeps", unfollowed := true, recurses := true, apart := false, narrowed := true }
def HeapKeepsUptoSaid : Prop := heapKeepsUptoRow.holds Try.pinned (OpenSpec.upto heapKeepsSpec)

/-- 'chiasmuslaw17.HeapNil', WHERE WHAT IT READS IS OF BULK AT MOST 1048576: true; the input reads as it did. -/
def heapNilUptoRow : OpenClaim := { program := "ytfdlfcafcjhpmaa", sum := "d180c256252849f73713819f42ba6d1d6f9667ccb059c068effce7d45f299c3e", func := "chiasmus/chiasmuslaw17.HeapNil", spec := "heapNil", unfollowed := true, recurses := true, apart := false, narrowed := true }
def HeapNilUptoSaid : Prop := heapNilUptoRow.holds Try.pinned (OpenSpec.upto heapNilSpec)

/-- 'chiasmuslaw01.DeclForms', WHERE WHAT IT READS IS OF BULK AT MOST 1048576: true; the input reads as it did. -/
def declFormsUptoRow : OpenClaim := { program := "ytfdlfcafcjhpmaa", sum := "d180c256252849f73713819f42ba6d1d6f9667ccb059c068effce7d45f299c3e", func := "chiasmus/chiasmuslaw01.DeclForms", spec := "declForms", inPlace := ["internal/bytealg.IndexByteString", "internal/bytealg.IndexString", "internal/abi.NoEscape", "internal/bytealg.MakeNoZero"], unfollowed := true, recurses := true, named := ["internal/bytealg.MaxLen"], apart := false, narrowed := true }
def DeclFormsUptoSaid : Prop := declFormsUptoRow.holds Try.pinned (OpenSpec.upto declFormsSpec)

/-- 'chiasmuslaw01.DeclTypes', WHERE WHAT IT READS IS OF BULK AT MOST 1048576: true; the input reads as it did. -/
def declTypesUptoRow : OpenClaim := { program := "ytfdlfcafcjhpmaa", sum := "d180c256252849f73713819f42ba6d1d6f9667ccb059c068effce7d45f299c3e", func := "chiasmus/chiasmuslaw01.DeclTypes", spec := "declTypes", inPlace := ["internal/bytealg.IndexByteString", "internal/bytealg.IndexString", "internal/abi.NoEscape", "internal/bytealg.MakeNoZero"], unfollowed := true, recurses := true, named := ["internal/bytealg.MaxLen"], apart := false, narrowed := true }
def DeclTypesUptoSaid : Prop := declTypesUptoRow.holds Try.pinned (OpenSpec.upto declTypesSpec)

/-- 'chiasmuslaw01.DeclFinds', WHERE WHAT IT READS IS OF BULK AT MOST 1048576: true; the input reads as it did. -/
def declFindsUptoRow : OpenClaim := { program := "ytfdlfcafcjhpmaa", sum := "d180c256252849f73713819f42ba6d1d6f9667ccb059c068effce7d45f299c3e", func := "chiasmus/chiasmuslaw01.DeclFinds", spec := "declFinds", inPlace := ["internal/bytealg.IndexByteString", "internal/bytealg.IndexString", "internal/abi.NoEscape", "internal/bytealg.MakeNoZero"], unfollowed := true, recurses := true, named := ["internal/bytealg.MaxLen"], apart := false, narrowed := true }
def DeclFindsUptoSaid : Prop := declFindsUptoRow.holds Try.pinned (OpenSpec.upto declFindsSpec)

/-- 'chiasmuslaw01.DeclMore', WHERE WHAT IT READS IS OF BULK AT MOST 1048576: true; the input reads as it did. -/
def declMoreUptoRow : OpenClaim := { program := "ytfdlfcafcjhpmaa", sum := "d180c256252849f73713819f42ba6d1d6f9667ccb059c068effce7d45f299c3e", func := "chiasmus/chiasmuslaw01.DeclMore", spec := "declMore", inPlace := ["internal/bytealg.IndexByteString", "internal/bytealg.IndexString", "internal/abi.NoEscape", "internal/bytealg.MakeNoZero"], unfollowed := true, recurses := true, named := ["internal/bytealg.MaxLen"], apart := false, narrowed := true }
def DeclMoreUptoSaid : Prop := declMoreUptoRow.holds Try.pinned (OpenSpec.upto declMoreSpec)

/-- 'chiasmuslaw01.DeclOwn', WHERE WHAT IT READS IS OF BULK AT MOST 1048576: true; the input reads as it did. -/
def declOwnUptoRow : OpenClaim := { program := "ytfdlfcafcjhpmaa", sum := "d180c256252849f73713819f42ba6d1d6f9667ccb059c068effce7d45f299c3e", func := "chiasmus/chiasmuslaw01.DeclOwn", spec := "declOwn", inPlace := ["internal/bytealg.IndexByteString", "internal/bytealg.IndexString", "internal/abi.NoEscape", "internal/bytealg.MakeNoZero"], unfollowed := true, recurses := true, named := ["internal/bytealg.MaxLen"], apart := false, narrowed := true }
def DeclOwnUptoSaid : Prop := declOwnUptoRow.holds Try.pinned (OpenSpec.upto declOwnSpec)

end Rows
end Go.Proofs.Ytfdlfcafcjhpmaa
