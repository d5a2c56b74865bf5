/-
  NARROWER THAN 'FOR EVERY INPUT', by the rows' own cells (each row's printed sentence says how): SerialNames: laid · SerialTexts: loops, laid · SerialPieces: loops, laid · SerialParts: loops, laid · SerialTags: loops, laid · SerialSafe: loops, laid · SerialPlain: loops, laid.
  DERIVED. THE GIVEN ROWS OF THIS SEAT. 7 by the template 'for every input the law returns true; each argument reads behind the call as it read before'; 0 by the template 'total and deterministic' (their statements: YtcogoiphpfgkdaaDoorTotals.lean).
  GIVEN WITH THE SEED: the statements are not yours to turn. If you find one false, say at which input.
  Laid BY PROGRAM, IN A SANDBOX (cutbox-rows.mjs): the forced cells as the released guide's own fill.sh prints them over the translation bca9d1b37fb31d6c… (all of the seat's roots in one cut). By AI agents, Wed Nov 11 2026. No macro, syntax, notation, axiom, sorry.
-/
import Derived.Test.YtcogoiphpfgkdaaDoorChecked
import GoSem.PinnedTables
import GoSem.Claim
import GoSem.ClaimJoined
import GoSem.ClaimMapViews
import Derived.JoinedTies
import Derived.KernelRfl
namespace Go.Proofs.YtcogoiphpfgkdaaDoor
/- THE CELL 'sum', in the pinned program and in every row, IS THE sha256 OF THE DUMP (.gsa) THAT YtcogoiphpfgkdaaDoorProg.lean LOADS. Nothing in Lean hashes anything: it is a label: what it is worth is what the hold of that sum in a sandbox is worth. -/
noncomputable def Tryd.pinned : Pinned := { name := "ytcogoiphpfgkdaadoor", sum := "bca9d1b37fb31d6c1f42e91b5e74ed91dfc9185712eaf88795f2a180150d5824", checked := Tryd.checked }
namespace Rows
def none {H : Type} : Left H := { results := [], args := [] }

/- WHAT THE LISTED PACKAGE-LEVEL VARIABLES READ AS WHEN THE CALL BEGINS. Each datum BY PROGRAM (the guide's laid-datum.mjs) off the statement by which the dump's own 'gosem.cut.vars' lays the variable. In a bare row this is a premise. The card (YtcogoiphpfgkdaaDoorCards.lean) ties it to the program's text. -/
def laid_unicode_White_Space {H : Type} : DataW H := .ptr (.agg [.slice [.agg [.lit (.int .u16 9), .lit (.int .u16 13), .lit (.int .u16 1)], .agg [.lit (.int .u16 32), .lit (.int .u16 133), .lit (.int .u16 101)], .agg [.lit (.int .u16 160), .lit (.int .u16 5760), .lit (.int .u16 5600)], .agg [.lit (.int .u16 8192), .lit (.int .u16 8202), .lit (.int .u16 1)], .agg [.lit (.int .u16 8232), .lit (.int .u16 8233), .lit (.int .u16 1)], .agg [.lit (.int .u16 8239), .lit (.int .u16 8287), .lit (.int .u16 48)], .agg [.lit (.int .u16 12288), .lit (.int .u16 12288), .lit (.int .u16 1)]] [], .nil, .lit (.int .i64 2)])
def laid_strings_asciiSpace {H : Type} : DataW H := .agg [.lit (.int .u8 0), .lit (.int .u8 0), .lit (.int .u8 0), .lit (.int .u8 0), .lit (.int .u8 0), .lit (.int .u8 0), .lit (.int .u8 0), .lit (.int .u8 0), .lit (.int .u8 0), .lit (.int .u8 1), .lit (.int .u8 1), .lit (.int .u8 1), .lit (.int .u8 1), .lit (.int .u8 1), .lit (.int .u8 0), .lit (.int .u8 0), .lit (.int .u8 0), .lit (.int .u8 0), .lit (.int .u8 0), .lit (.int .u8 0), .lit (.int .u8 0), .lit (.int .u8 0), .lit (.int .u8 0), .lit (.int .u8 0), .lit (.int .u8 0), .lit (.int .u8 0), .lit (.int .u8 0), .lit (.int .u8 0), .lit (.int .u8 0), .lit (.int .u8 0), .lit (.int .u8 0), .lit (.int .u8 0), .lit (.int .u8 1), .lit (.int .u8 0), .lit (.int .u8 0), .lit (.int .u8 0), .lit (.int .u8 0), .lit (.int .u8 0), .lit (.int .u8 0), .lit (.int .u8 0), .lit (.int .u8 0), .lit (.int .u8 0), .lit (.int .u8 0), .lit (.int .u8 0), .lit (.int .u8 0), .lit (.int .u8 0), .lit (.int .u8 0), .lit (.int .u8 0), .lit (.int .u8 0), .lit (.int .u8 0), .lit (.int .u8 0), .lit (.int .u8 0), .lit (.int .u8 0), .lit (.int .u8 0), .lit (.int .u8 0), .lit (.int .u8 0), .lit (.int .u8 0), .lit (.int .u8 0), .lit (.int .u8 0), .lit (.int .u8 0), .lit (.int .u8 0), .lit (.int .u8 0), .lit (.int .u8 0), .lit (.int .u8 0), .lit (.int .u8 0), .lit (.int .u8 0), .lit (.int .u8 0), .lit (.int .u8 0), .lit (.int .u8 0), .lit (.int .u8 0), .lit (.int .u8 0), .lit (.int .u8 0), .lit (.int .u8 0), .lit (.int .u8 0), .lit (.int .u8 0), .lit (.int .u8 0), .lit (.int .u8 0), .lit (.int .u8 0), .lit (.int .u8 0), .lit (.int .u8 0), .lit (.int .u8 0), .lit (.int .u8 0), .lit (.int .u8 0), .lit (.int .u8 0), .lit (.int .u8 0), .lit (.int .u8 0), .lit (.int .u8 0), .lit (.int .u8 0), .lit (.int .u8 0), .lit (.int .u8 0), .lit (.int .u8 0), .lit (.int .u8 0), .lit (.int .u8 0), .lit (.int .u8 0), .lit (.int .u8 0), .lit (.int .u8 0), .lit (.int .u8 0), .lit (.int .u8 0), .lit (.int .u8 0), .lit (.int .u8 0), .lit (.int .u8 0), .lit (.int .u8 0), .lit (.int .u8 0), .lit (.int .u8 0), .lit (.int .u8 0), .lit (.int .u8 0), .lit (.int .u8 0), .lit (.int .u8 0), .lit (.int .u8 0), .lit (.int .u8 0), .lit (.int .u8 0), .lit (.int .u8 0), .lit (.int .u8 0), .lit (.int .u8 0), .lit (.int .u8 0), .lit (.int .u8 0), .lit (.int .u8 0), .lit (.int .u8 0), .lit (.int .u8 0), .lit (.int .u8 0), .lit (.int .u8 0), .lit (.int .u8 0), .lit (.int .u8 0), .lit (.int .u8 0), .lit (.int .u8 0), .lit (.int .u8 0), .lit (.int .u8 0), .lit (.int .u8 0), .lit (.int .u8 0), .lit (.int .u8 0), .lit (.int .u8 0), .lit (.int .u8 0), .lit (.int .u8 0), .lit (.int .u8 0), .lit (.int .u8 0), .lit (.int .u8 0), .lit (.int .u8 0), .lit (.int .u8 0), .lit (.int .u8 0), .lit (.int .u8 0), .lit (.int .u8 0), .lit (.int .u8 0), .lit (.int .u8 0), .lit (.int .u8 0), .lit (.int .u8 0), .lit (.int .u8 0), .lit (.int .u8 0), .lit (.int .u8 0), .lit (.int .u8 0), .lit (.int .u8 0), .lit (.int .u8 0), .lit (.int .u8 0), .lit (.int .u8 0), .lit (.int .u8 0), .lit (.int .u8 0), .lit (.int .u8 0), .lit (.int .u8 0), .lit (.int .u8 0), .lit (.int .u8 0), .lit (.int .u8 0), .lit (.int .u8 0), .lit (.int .u8 0), .lit (.int .u8 0), .lit (.int .u8 0), .lit (.int .u8 0), .lit (.int .u8 0), .lit (.int .u8 0), .lit (.int .u8 0), .lit (.int .u8 0), .lit (.int .u8 0), .lit (.int .u8 0), .lit (.int .u8 0), .lit (.int .u8 0), .lit (.int .u8 0), .lit (.int .u8 0), .lit (.int .u8 0), .lit (.int .u8 0), .lit (.int .u8 0), .lit (.int .u8 0), .lit (.int .u8 0), .lit (.int .u8 0), .lit (.int .u8 0), .lit (.int .u8 0), .lit (.int .u8 0), .lit (.int .u8 0), .lit (.int .u8 0), .lit (.int .u8 0), .lit (.int .u8 0), .lit (.int .u8 0), .lit (.int .u8 0), .lit (.int .u8 0), .lit (.int .u8 0), .lit (.int .u8 0), .lit (.int .u8 0), .lit (.int .u8 0), .lit (.int .u8 0), .lit (.int .u8 0), .lit (.int .u8 0), .lit (.int .u8 0), .lit (.int .u8 0), .lit (.int .u8 0), .lit (.int .u8 0), .lit (.int .u8 0), .lit (.int .u8 0), .lit (.int .u8 0), .lit (.int .u8 0), .lit (.int .u8 0), .lit (.int .u8 0), .lit (.int .u8 0), .lit (.int .u8 0), .lit (.int .u8 0), .lit (.int .u8 0), .lit (.int .u8 0), .lit (.int .u8 0), .lit (.int .u8 0), .lit (.int .u8 0), .lit (.int .u8 0), .lit (.int .u8 0), .lit (.int .u8 0), .lit (.int .u8 0), .lit (.int .u8 0), .lit (.int .u8 0), .lit (.int .u8 0), .lit (.int .u8 0), .lit (.int .u8 0), .lit (.int .u8 0), .lit (.int .u8 0), .lit (.int .u8 0), .lit (.int .u8 0), .lit (.int .u8 0), .lit (.int .u8 0), .lit (.int .u8 0), .lit (.int .u8 0), .lit (.int .u8 0), .lit (.int .u8 0), .lit (.int .u8 0), .lit (.int .u8 0), .lit (.int .u8 0), .lit (.int .u8 0), .lit (.int .u8 0), .lit (.int .u8 0), .lit (.int .u8 0), .lit (.int .u8 0), .lit (.int .u8 0), .lit (.int .u8 0), .lit (.int .u8 0), .lit (.int .u8 0), .lit (.int .u8 0), .lit (.int .u8 0), .lit (.int .u8 0), .lit (.int .u8 0), .lit (.int .u8 0), .lit (.int .u8 0), .lit (.int .u8 0), .lit (.int .u8 0), .lit (.int .u8 0)]
def laid_sieve_serial_rawParents {H : Type} : DataW H := .agg [.lit (.string [115, 116, 121, 108, 101]), .lit (.string [115, 99, 114, 105, 112, 116]), .lit (.string [120, 109, 112]), .lit (.string [105, 102, 114, 97, 109, 101]), .lit (.string [110, 111, 101, 109, 98, 101, 100]), .lit (.string [110, 111, 102, 114, 97, 109, 101, 115]), .lit (.string [112, 108, 97, 105, 110, 116, 101, 120, 116]), .lit (.string [110, 111, 115, 99, 114, 105, 112, 116])]
def laid_unicode_utf8_acceptRanges {H : Type} : DataW H := .agg [.agg [.lit (.int .u8 128), .lit (.int .u8 191)], .agg [.lit (.int .u8 160), .lit (.int .u8 191)], .agg [.lit (.int .u8 128), .lit (.int .u8 159)], .agg [.lit (.int .u8 144), .lit (.int .u8 191)], .agg [.lit (.int .u8 128), .lit (.int .u8 143)], .agg [.lit (.int .u8 0), .lit (.int .u8 0)], .agg [.lit (.int .u8 0), .lit (.int .u8 0)], .agg [.lit (.int .u8 0), .lit (.int .u8 0)], .agg [.lit (.int .u8 0), .lit (.int .u8 0)], .agg [.lit (.int .u8 0), .lit (.int .u8 0)], .agg [.lit (.int .u8 0), .lit (.int .u8 0)], .agg [.lit (.int .u8 0), .lit (.int .u8 0)], .agg [.lit (.int .u8 0), .lit (.int .u8 0)], .agg [.lit (.int .u8 0), .lit (.int .u8 0)], .agg [.lit (.int .u8 0), .lit (.int .u8 0)], .agg [.lit (.int .u8 0), .lit (.int .u8 0)]]
/-- One of Go's own tables, pinned by name: the form's constant. -/
def laid_unicode_utf8_first : DataW Unit := Go.Pinned.utf8First

/-- 'sievelaw24.SerialNames': WHATEVER THE INPUT: true; the input reads as it did. -/
def serialNamesSpec : ChangeSpec := { name := "serialNames", fn := fun _ => fun
  | [] => { results := [.lit (.bool true)], args := [] }
  | _ => none }
def serialNamesRow : OpenClaim := { program := "ytcogoiphpfgkdaadoor", sum := "bca9d1b37fb31d6c1f42e91b5e74ed91dfc9185712eaf88795f2a180150d5824", func := "sieve/sievelaw24.SerialNames", spec := "serialNames", inPlace := ["internal/abi.NoEscape"], unfollowed := true, recurses := true, named := ["strings.asciiSpace", "unicode.White_Space", "sieve/serial.rawParents"], apart := false, laid := [("unicode.White_Space", laid_unicode_White_Space), ("strings.asciiSpace", laid_strings_asciiSpace), ("sieve/serial.rawParents", laid_sieve_serial_rawParents)] }
def SerialNamesSaid : Prop := serialNamesRow.holds Tryd.pinned (OpenSpec.ofChange serialNamesSpec)

/-- ITS FALSE NEIGHBOUR: 'it returns false'. Refute it at one input. -/
def serialNamesWrong : ChangeSpec := { name := "serialNames", fn := fun _ => fun
  | [] => { results := [.lit (.bool false)], args := [] }
  | _ => none }
def SerialNamesWrongFalsely : Prop := serialNamesRow.holds Tryd.pinned (OpenSpec.ofChange serialNamesWrong)

/-- 'sievelaw24.SerialTexts': WHATEVER THE INPUT: true; the input reads as it did. -/
def serialTextsSpec : ChangeSpec := { name := "serialTexts", fn := fun _ => fun
  | [d] => { results := [.lit (.bool true)], args := [d] }
  | _ => none }
def serialTextsRow : OpenClaim := { program := "ytcogoiphpfgkdaadoor", sum := "bca9d1b37fb31d6c1f42e91b5e74ed91dfc9185712eaf88795f2a180150d5824", func := "sieve/sievelaw24.SerialTexts", spec := "serialTexts", inPlace := ["internal/abi.NoEscape"], unfollowed := true, recurses := true, named := ["strings.asciiSpace", "unicode.White_Space", "sieve/serial.rawParents"], loops := true, apart := false, laid := [("unicode.White_Space", laid_unicode_White_Space), ("strings.asciiSpace", laid_strings_asciiSpace), ("sieve/serial.rawParents", laid_sieve_serial_rawParents)] }
def SerialTextsSaid : Prop := serialTextsRow.holds Tryd.pinned (OpenSpec.ofChange serialTextsSpec)

/-- ITS FALSE NEIGHBOUR: 'it returns false'. Refute it at one input. -/
def serialTextsWrong : ChangeSpec := { name := "serialTexts", fn := fun _ => fun
  | [d] => { results := [.lit (.bool false)], args := [d] }
  | _ => none }
def SerialTextsWrongFalsely : Prop := serialTextsRow.holds Tryd.pinned (OpenSpec.ofChange serialTextsWrong)

/-- 'sievelaw24.SerialPieces': WHATEVER THE INPUT: true; the input reads as it did. -/
def serialPiecesSpec : ChangeSpec := { name := "serialPieces", fn := fun _ => fun
  | [d1, d2] => { results := [.lit (.bool true)], args := [d1, d2] }
  | _ => none }
def serialPiecesRow : OpenClaim := { program := "ytcogoiphpfgkdaadoor", sum := "bca9d1b37fb31d6c1f42e91b5e74ed91dfc9185712eaf88795f2a180150d5824", func := "sieve/sievelaw24.SerialPieces", spec := "serialPieces", inPlace := ["internal/abi.NoEscape"], unfollowed := true, recurses := true, named := ["strings.asciiSpace", "unicode.White_Space", "sieve/serial.rawParents"], loops := true, apart := false, laid := [("unicode.White_Space", laid_unicode_White_Space), ("strings.asciiSpace", laid_strings_asciiSpace), ("sieve/serial.rawParents", laid_sieve_serial_rawParents)] }
def SerialPiecesSaid : Prop := serialPiecesRow.holds Tryd.pinned (OpenSpec.ofChange serialPiecesSpec)

/-- ITS FALSE NEIGHBOUR: 'it returns false'. Refute it at one input. -/
def serialPiecesWrong : ChangeSpec := { name := "serialPieces", fn := fun _ => fun
  | [d1, d2] => { results := [.lit (.bool false)], args := [d1, d2] }
  | _ => none }
def SerialPiecesWrongFalsely : Prop := serialPiecesRow.holds Tryd.pinned (OpenSpec.ofChange serialPiecesWrong)

/-- 'sievelaw24.SerialParts': WHATEVER THE INPUT: true; the input reads as it did. -/
def serialPartsSpec : ChangeSpec := { name := "serialParts", fn := fun _ => fun
  | [d1, d2] => { results := [.lit (.bool true)], args := [d1, d2] }
  | _ => none }
def serialPartsRow : OpenClaim := { program := "ytcogoiphpfgkdaadoor", sum := "bca9d1b37fb31d6c1f42e91b5e74ed91dfc9185712eaf88795f2a180150d5824", func := "sieve/sievelaw24.SerialParts", spec := "serialParts", inPlace := ["internal/abi.NoEscape"], unfollowed := true, recurses := true, named := ["strings.asciiSpace", "unicode.White_Space", "sieve/serial.rawParents"], loops := true, apart := false, laid := [("unicode.White_Space", laid_unicode_White_Space), ("strings.asciiSpace", laid_strings_asciiSpace), ("sieve/serial.rawParents", laid_sieve_serial_rawParents)] }
def SerialPartsSaid : Prop := serialPartsRow.holds Tryd.pinned (OpenSpec.ofChange serialPartsSpec)

/-- ITS FALSE NEIGHBOUR: 'it returns false'. Refute it at one input. -/
def serialPartsWrong : ChangeSpec := { name := "serialParts", fn := fun _ => fun
  | [d1, d2] => { results := [.lit (.bool false)], args := [d1, d2] }
  | _ => none }
def SerialPartsWrongFalsely : Prop := serialPartsRow.holds Tryd.pinned (OpenSpec.ofChange serialPartsWrong)

/-- 'sievelaw24.SerialTags': WHATEVER THE INPUT: true; the input reads as it did. -/
def serialTagsSpec : ChangeSpec := { name := "serialTags", fn := fun _ => fun
  | [d] => { results := [.lit (.bool true)], args := [d] }
  | _ => none }
def serialTagsRow : OpenClaim := { program := "ytcogoiphpfgkdaadoor", sum := "bca9d1b37fb31d6c1f42e91b5e74ed91dfc9185712eaf88795f2a180150d5824", func := "sieve/sievelaw24.SerialTags", spec := "serialTags", inPlace := ["internal/abi.NoEscape"], unfollowed := true, recurses := true, named := ["strings.asciiSpace", "unicode.White_Space", "sieve/serial.rawParents"], loops := true, apart := false, laid := [("unicode.White_Space", laid_unicode_White_Space), ("strings.asciiSpace", laid_strings_asciiSpace), ("sieve/serial.rawParents", laid_sieve_serial_rawParents)] }
def SerialTagsSaid : Prop := serialTagsRow.holds Tryd.pinned (OpenSpec.ofChange serialTagsSpec)

/-- ITS FALSE NEIGHBOUR: 'it returns false'. Refute it at one input. -/
def serialTagsWrong : ChangeSpec := { name := "serialTags", fn := fun _ => fun
  | [d] => { results := [.lit (.bool false)], args := [d] }
  | _ => none }
def SerialTagsWrongFalsely : Prop := serialTagsRow.holds Tryd.pinned (OpenSpec.ofChange serialTagsWrong)

/-- 'sievelaw24.SerialSafe': WHATEVER THE INPUT: true; the input reads as it did. -/
def serialSafeSpec : ChangeSpec := { name := "serialSafe", fn := fun _ => fun
  | [d] => { results := [.lit (.bool true)], args := [d] }
  | _ => none }
def serialSafeRow : OpenClaim := { program := "ytcogoiphpfgkdaadoor", sum := "bca9d1b37fb31d6c1f42e91b5e74ed91dfc9185712eaf88795f2a180150d5824", func := "sieve/sievelaw24.SerialSafe", spec := "serialSafe", inPlace := ["internal/abi.NoEscape"], unfollowed := true, recurses := true, named := ["strings.asciiSpace", "unicode.White_Space", "sieve/serial.rawParents"], loops := true, apart := false, laid := [("unicode.White_Space", laid_unicode_White_Space), ("strings.asciiSpace", laid_strings_asciiSpace), ("sieve/serial.rawParents", laid_sieve_serial_rawParents)] }
def SerialSafeSaid : Prop := serialSafeRow.holds Tryd.pinned (OpenSpec.ofChange serialSafeSpec)

/-- ITS FALSE NEIGHBOUR: 'it returns false'. Refute it at one input. -/
def serialSafeWrong : ChangeSpec := { name := "serialSafe", fn := fun _ => fun
  | [d] => { results := [.lit (.bool false)], args := [d] }
  | _ => none }
def SerialSafeWrongFalsely : Prop := serialSafeRow.holds Tryd.pinned (OpenSpec.ofChange serialSafeWrong)

/-- 'sievelaw24.SerialPlain': WHATEVER THE INPUT: true; the input reads as it did. -/
def serialPlainSpec : ChangeSpec := { name := "serialPlain", fn := fun _ => fun
  | [d] => { results := [.lit (.bool true)], args := [d] }
  | _ => none }
def serialPlainRow : OpenClaim := { program := "ytcogoiphpfgkdaadoor", sum := "bca9d1b37fb31d6c1f42e91b5e74ed91dfc9185712eaf88795f2a180150d5824", func := "sieve/sievelaw24.SerialPlain", spec := "serialPlain", inPlace := ["internal/abi.NoEscape", "internal/bytealg.IndexByteString", "internal/bytealg.IndexString"], unfollowed := true, recurses := true, named := ["strings.asciiSpace", "unicode.White_Space", "sieve/serial.rawParents", "unicode/utf8.first", "unicode/utf8.acceptRanges", "internal/bytealg.MaxLen"], loops := true, apart := false, laid := [("unicode/utf8.acceptRanges", laid_unicode_utf8_acceptRanges), ("unicode.White_Space", laid_unicode_White_Space), ("strings.asciiSpace", laid_strings_asciiSpace), ("sieve/serial.rawParents", laid_sieve_serial_rawParents), ("unicode/utf8.first", laid_unicode_utf8_first)] }
def SerialPlainSaid : Prop := serialPlainRow.holds Tryd.pinned (OpenSpec.ofChange serialPlainSpec)

/-- ITS FALSE NEIGHBOUR: 'it returns false'. Refute it at one input. -/
def serialPlainWrong : ChangeSpec := { name := "serialPlain", fn := fun _ => fun
  | [d] => { results := [.lit (.bool false)], args := [d] }
  | _ => none }
def SerialPlainWrongFalsely : Prop := serialPlainRow.holds Tryd.pinned (OpenSpec.ofChange serialPlainWrong)

/- THE SECOND FORM. 'bulk': how many values and letters a reading holds, each counted each time it is reached (what is shared counts as often as it is met; a slice's spare places count too). A statement '..UptoSaid' is the law's where the arguments, and the package variables that the reading takes, are together of bulk at most 1048576: NARROWER than '..Said'. Prove '..Said' where nothing that the law and all that it calls make is longer than what came in: it says more and counts as full. Else prove '..UptoSaid'. A law counts once. -/
mutual
def uptoBulk {H : Type} : DataW H → Nat
  | .lit (.string bytes) => bytes.length + 1
  | .lit _ => 1
  | .nil => 1
  | .ptr d => uptoBulk d + 1
  | .slice elems spare => uptoBulkAll elems + uptoBulkAll spare + 1
  | .agg parts => uptoBulkAll parts + 1
  | .iface _ d => uptoBulk d + 1
  | .map entries => uptoBulkEntries entries + 1
  | .held _ => 1
def uptoBulkAll {H : Type} : List (DataW H) → Nat
  | [] => 0
  | d :: r => uptoBulk d + uptoBulkAll r
def uptoBulkEntries {H : Type} : List (Lit × DataW H) → Nat
  | [] => 0
  | x :: r => uptoBulkEntry x + uptoBulkEntries r
def uptoBulkEntry {H : Type} : Lit × DataW H → Nat
  | (.string bytes, d) => bytes.length + uptoBulk d + 1
  | (_, d) => uptoBulk d + 1
 end
def uptoSmall : (H : Type) → List (DataW H) → Bool := fun _ ds => decide (uptoBulkAll ds ≤ 1048576)
def OpenSpec.upto (s : _root_.Go.ChangeSpec) : _root_.Go.OpenSpec := { _root_.Go.OpenSpec.ofChange s with cond := some uptoSmall }

/-- 'sievelaw24.SerialNames', WHERE WHAT IT READS IS OF BULK AT MOST 1048576: true; the input reads as it did. -/
def serialNamesUptoRow : OpenClaim := { program := "ytcogoiphpfgkdaadoor", sum := "bca9d1b37fb31d6c1f42e91b5e74ed91dfc9185712eaf88795f2a180150d5824", func := "sieve/sievelaw24.SerialNames", spec := "serialNames", inPlace := ["internal/abi.NoEscape"], unfollowed := true, recurses := true, named := ["strings.asciiSpace", "unicode.White_Space", "sieve/serial.rawParents"], apart := false, laid := [("unicode.White_Space", laid_unicode_White_Space), ("strings.asciiSpace", laid_strings_asciiSpace), ("sieve/serial.rawParents", laid_sieve_serial_rawParents)], narrowed := true }
def SerialNamesUptoSaid : Prop := serialNamesUptoRow.holds Tryd.pinned (OpenSpec.upto serialNamesSpec)

/-- 'sievelaw24.SerialTexts', WHERE WHAT IT READS IS OF BULK AT MOST 1048576: true; the input reads as it did. -/
def serialTextsUptoRow : OpenClaim := { program := "ytcogoiphpfgkdaadoor", sum := "bca9d1b37fb31d6c1f42e91b5e74ed91dfc9185712eaf88795f2a180150d5824", func := "sieve/sievelaw24.SerialTexts", spec := "serialTexts", inPlace := ["internal/abi.NoEscape"], unfollowed := true, recurses := true, named := ["strings.asciiSpace", "unicode.White_Space", "sieve/serial.rawParents"], loops := true, apart := false, laid := [("unicode.White_Space", laid_unicode_White_Space), ("strings.asciiSpace", laid_strings_asciiSpace), ("sieve/serial.rawParents", laid_sieve_serial_rawParents)], narrowed := true }
def SerialTextsUptoSaid : Prop := serialTextsUptoRow.holds Tryd.pinned (OpenSpec.upto serialTextsSpec)

/-- 'sievelaw24.SerialPieces', WHERE WHAT IT READS IS OF BULK AT MOST 1048576: true; the input reads as it did. -/
def serialPiecesUptoRow : OpenClaim := { program := "ytcogoiphpfgkdaadoor", sum := "bca9d1b37fb31d6c1f42e91b5e74ed91dfc9185712eaf88795f2a180150d5824", func := "sieve/sievelaw24.SerialPieces", spec := "serialPieces", inPlace := ["internal/abi.NoEscape"], unfollowed := true, recurses := true, named := ["strings.asciiSpace", "unicode.White_Space", "sieve/serial.rawParents"], loops := true, apart := false, laid := [("unicode.White_Space", laid_unicode_White_Space), ("strings.asciiSpace", laid_strings_asciiSpace), ("sieve/serial.rawParents", laid_sieve_serial_rawParents)], narrowed := true }
def SerialPiecesUptoSaid : Prop := serialPiecesUptoRow.holds Tryd.pinned (OpenSpec.upto serialPiecesSpec)

/-- 'sievelaw24.SerialParts', WHERE WHAT IT READS IS OF BULK AT MOST 1048576: true; the input reads as it did. -/
def serialPartsUptoRow : OpenClaim := { program := "ytcogoiphpfgkdaadoor", sum := "bca9d1b37fb31d6c1f42e91b5e74ed91dfc9185712eaf88795f2a180150d5824", func := "sieve/sievelaw24.SerialParts", spec := "serialParts", inPlace := ["internal/abi.NoEscape"], unfollowed := true, recurses := true, named := ["strings.asciiSpace", "unicode.White_Space", "sieve/serial.rawParents"], loops := true, apart := false, laid := [("unicode.White_Space", laid_unicode_White_Space), ("strings.asciiSpace", laid_strings_asciiSpace), ("sieve/serial.rawParents", laid_sieve_serial_rawParents)], narrowed := true }
def SerialPartsUptoSaid : Prop := serialPartsUptoRow.holds Tryd.pinned (OpenSpec.upto serialPartsSpec)

/-- 'sievelaw24.SerialTags', WHERE WHAT IT READS IS OF BULK AT MOST 1048576: true; the input reads as it did. -/
def serialTagsUptoRow : OpenClaim := { program := "ytcogoiphpfgkdaadoor", sum := "bca9d1b37fb31d6c1f42e91b5e74ed91dfc9185712eaf88795f2a180150d5824", func := "sieve/sievelaw24.SerialTags", spec := "serialTags", inPlace := ["internal/abi.NoEscape"], unfollowed := true, recurses := true, named := ["strings.asciiSpace", "unicode.White_Space", "sieve/serial.rawParents"], loops := true, apart := false, laid := [("unicode.White_Space", laid_unicode_White_Space), ("strings.asciiSpace", laid_strings_asciiSpace), ("sieve/serial.rawParents", laid_sieve_serial_rawParents)], narrowed := true }
def SerialTagsUptoSaid : Prop := serialTagsUptoRow.holds Tryd.pinned (OpenSpec.upto serialTagsSpec)

/-- 'sievelaw24.SerialSafe', WHERE WHAT IT READS IS OF BULK AT MOST 1048576: true; the input reads as it did. -/
def serialSafeUptoRow : OpenClaim := { program := "ytcogoiphpfgkdaadoor", sum := "bca9d1b37fb31d6c1f42e91b5e74ed91dfc9185712eaf88795f2a180150d5824", func := "sieve/sievelaw24.SerialSafe", spec := "serialSafe", inPlace := ["internal/abi.NoEscape"], unfollowed := true, recurses := true, named := ["strings.asciiSpace", "unicode.White_Space", "sieve/serial.rawParents"], loops := true, apart := false, laid := [("unicode.White_Space", laid_unicode_White_Space), ("strings.asciiSpace", laid_strings_asciiSpace), ("sieve/serial.rawParents", laid_sieve_serial_rawParents)], narrowed := true }
def SerialSafeUptoSaid : Prop := serialSafeUptoRow.holds Tryd.pinned (OpenSpec.upto serialSafeSpec)

/-- 'sievelaw24.SerialPlain', WHERE WHAT IT READS IS OF BULK AT MOST 1048576: true; the input reads as it did. -/
def serialPlainUptoRow : OpenClaim := { program := "ytcogoiphpfgkdaadoor", sum := "bca9d1b37fb31d6c1f42e91b5e74ed91dfc9185712eaf88795f2a180150d5824", func := "sieve/sievelaw24.SerialPlain", spec := "serialPlain", inPlace := ["internal/abi.NoEscape", "internal/bytealg.IndexByteString", "internal/bytealg.IndexString"], unfollowed := true, recurses := true, named := ["strings.asciiSpace", "unicode.White_Space", "sieve/serial.rawParents", "unicode/utf8.first", "unicode/utf8.acceptRanges", "internal/bytealg.MaxLen"], loops := true, apart := false, laid := [("unicode/utf8.acceptRanges", laid_unicode_utf8_acceptRanges), ("unicode.White_Space", laid_unicode_White_Space), ("strings.asciiSpace", laid_strings_asciiSpace), ("sieve/serial.rawParents", laid_sieve_serial_rawParents), ("unicode/utf8.first", laid_unicode_utf8_first)], narrowed := true }
def SerialPlainUptoSaid : Prop := serialPlainUptoRow.holds Tryd.pinned (OpenSpec.upto serialPlainSpec)

end Rows
end Go.Proofs.YtcogoiphpfgkdaaDoor
