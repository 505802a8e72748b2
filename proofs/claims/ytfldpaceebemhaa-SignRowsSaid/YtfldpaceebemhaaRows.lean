/-
  NARROWER THAN 'FOR EVERY INPUT', by the rows' own cells (each row's printed sentence says how): SignSorts: loops · SignChecks: loops.
  DERIVED. THE GIVEN ROWS OF THIS SEAT. 4 by the template 'for every input the law returns true; each argument reads behind the call as it read before'; 0 by the template 'total and deterministic' (their statements: YtfldpaceebemhaaTotals.lean).
  GIVEN WITH THE SEED: the statements are not yours to turn. If you find one false, say at which input.
  Laid BY PROGRAM, IN A SANDBOX (cutbox-rows.mjs): the forced cells as the released guide's own fill.sh prints them over the translation 09bbf9e29e347318… (all of the seat's roots in one cut). By AI agents, Wed Nov 11 2026. No macro, syntax, notation, axiom, sorry.
-/
import Derived.Test.YtfldpaceebemhaaChecked
import GoSem.Claim
import GoSem.ClaimJoined
import GoSem.ClaimMapViews
import Derived.JoinedTies
import Derived.KernelRfl
namespace Go.Proofs.Ytfldpaceebemhaa
/- THE CELL 'sum', in the pinned program and in every row, IS THE sha256 OF THE DUMP (.gsa) THAT YtfldpaceebemhaaProg.lean LOADS. Nothing in Lean hashes anything: it is a label: what it is worth is what the hold of that sum in a sandbox is worth. -/
noncomputable def Try.pinned : Pinned := { name := "ytfldpaceebemhaa", sum := "09bbf9e29e347318c91fd9cb6a51a21761f805472f9c5cd8387d4226c0a42ce8", checked := Try.checked }
namespace Rows
def none {H : Type} : Left H := { results := [], args := [] }

/-- 'graticulelaw17.SignSorts': WHATEVER THE INPUT: true; the input reads as it did. -/
def signSortsSpec : ChangeSpec := { name := "signSorts", fn := fun _ => fun
  | [d1, d2] => { results := [.lit (.bool true)], args := [d1, d2] }
  | _ => none }
def signSortsRow : OpenClaim := { program := "ytfldpaceebemhaa", sum := "09bbf9e29e347318c91fd9cb6a51a21761f805472f9c5cd8387d4226c0a42ce8", func := "graticule/graticulelaw17.SignSorts", spec := "signSorts", recurses := true, loops := true, apart := false }
def SignSortsSaid : Prop := signSortsRow.holds Try.pinned (OpenSpec.ofChange signSortsSpec)

/-- ITS FALSE NEIGHBOUR: 'it returns false'. Refute it at one input. -/
def signSortsWrong : ChangeSpec := { name := "signSorts", fn := fun _ => fun
  | [d1, d2] => { results := [.lit (.bool false)], args := [d1, d2] }
  | _ => none }
def SignSortsWrongFalsely : Prop := signSortsRow.holds Try.pinned (OpenSpec.ofChange signSortsWrong)

/-- 'graticulelaw17.SignChecks': WHATEVER THE INPUT: true; the input reads as it did. -/
def signChecksSpec : ChangeSpec := { name := "signChecks", fn := fun _ => fun
  | [d] => { results := [.lit (.bool true)], args := [d] }
  | _ => none }
def signChecksRow : OpenClaim := { program := "ytfldpaceebemhaa", sum := "09bbf9e29e347318c91fd9cb6a51a21761f805472f9c5cd8387d4226c0a42ce8", func := "graticule/graticulelaw17.SignChecks", spec := "signChecks", recurses := true, loops := true, apart := false }
def SignChecksSaid : Prop := signChecksRow.holds Try.pinned (OpenSpec.ofChange signChecksSpec)

/-- ITS FALSE NEIGHBOUR: 'it returns false'. Refute it at one input. -/
def signChecksWrong : ChangeSpec := { name := "signChecks", fn := fun _ => fun
  | [d] => { results := [.lit (.bool false)], args := [d] }
  | _ => none }
def SignChecksWrongFalsely : Prop := signChecksRow.holds Try.pinned (OpenSpec.ofChange signChecksWrong)

/-- 'graticulelaw17.SignRows': WHATEVER THE INPUT: true; the input reads as it did. -/
def signRowsSpec : ChangeSpec := { name := "signRows", fn := fun _ => fun
  | [d1, d2] => { results := [.lit (.bool true)], args := [d1, d2] }
  | _ => none }
def signRowsRow : OpenClaim := { program := "ytfldpaceebemhaa", sum := "09bbf9e29e347318c91fd9cb6a51a21761f805472f9c5cd8387d4226c0a42ce8", func := "graticule/graticulelaw17.SignRows", spec := "signRows", recurses := true, apart := false }
def SignRowsSaid : Prop := signRowsRow.holds Try.pinned (OpenSpec.ofChange signRowsSpec)

/-- ITS FALSE NEIGHBOUR: 'it returns false'. Refute it at one input. -/
def signRowsWrong : ChangeSpec := { name := "signRows", fn := fun _ => fun
  | [d1, d2] => { results := [.lit (.bool false)], args := [d1, d2] }
  | _ => none }
def SignRowsWrongFalsely : Prop := signRowsRow.holds Try.pinned (OpenSpec.ofChange signRowsWrong)

/-- 'graticulelaw17.SignMany': WHATEVER THE INPUT: true; the input reads as it did. -/
def signManySpec : ChangeSpec := { name := "signMany", fn := fun _ => fun
  | [d1, d2] => { results := [.lit (.bool true)], args := [d1, d2] }
  | _ => none }
def signManyRow : OpenClaim := { program := "ytfldpaceebemhaa", sum := "09bbf9e29e347318c91fd9cb6a51a21761f805472f9c5cd8387d4226c0a42ce8", func := "graticule/graticulelaw17.SignMany", spec := "signMany", recurses := true, apart := false }
def SignManySaid : Prop := signManyRow.holds Try.pinned (OpenSpec.ofChange signManySpec)

/-- ITS FALSE NEIGHBOUR: 'it returns false'. Refute it at one input. -/
def signManyWrong : ChangeSpec := { name := "signMany", fn := fun _ => fun
  | [d1, d2] => { results := [.lit (.bool false)], args := [d1, d2] }
  | _ => none }
def SignManyWrongFalsely : Prop := signManyRow.holds Try.pinned (OpenSpec.ofChange signManyWrong)

/- THE SECOND FORM. 'bulk': how many values and letters a reading holds, each counted each time it is reached (what is shared counts as often as it is met; a slice's spare places count too). A statement '..UptoSaid' is the law's where the arguments, and the package variables that the reading takes, are together of bulk at most 1048576: NARROWER than '..Said'. Prove '..Said' where nothing that the law and all that it calls make is longer than what came in: it says more and counts as full. Else prove '..UptoSaid'. A law counts once. -/
mutual
def uptoBulk {H : Type} : DataW H → Nat
  | .lit (.string bytes) => bytes.length + 1
  | .lit _ => 1
  | .nil => 1
  | .ptr d => uptoBulk d + 1
  | .slice elems spare => uptoBulkAll elems + uptoBulkAll spare + 1
  | .agg parts => uptoBulkAll parts + 1
  | .iface _ d => uptoBulk d + 1
  | .map entries => uptoBulkEntries entries + 1
  | .held _ => 1
def uptoBulkAll {H : Type} : List (DataW H) → Nat
  | [] => 0
  | d :: r => uptoBulk d + uptoBulkAll r
def uptoBulkEntries {H : Type} : List (Lit × DataW H) → Nat
  | [] => 0
  | x :: r => uptoBulkEntry x + uptoBulkEntries r
def uptoBulkEntry {H : Type} : Lit × DataW H → Nat
  | (.string bytes, d) => bytes.length + uptoBulk d + 1
  | (_, d) => uptoBulk d + 1
 end
def uptoSmall : (H : Type) → List (DataW H) → Bool := fun _ ds => decide (uptoBulkAll ds ≤ 1048576)
def OpenSpec.upto (s : _root_.Go.ChangeSpec) : _root_.Go.OpenSpec := { _root_.Go.OpenSpec.ofChange s with cond := some uptoSmall }

/-- 'graticulelaw17.SignSorts', WHERE WHAT IT READS IS OF BULK AT MOST 1048576: true; the input reads as it did. -/
def signSortsUptoRow : OpenClaim := { program := "ytfldpaceebemhaa", sum := "09bbf9e29e347318c91fd9cb6a51a21761f805472f9c5cd8387d4226c0a42ce8", func := "graticule/graticulelaw17.SignSorts", spec := "signSorts", recurses := true, loops := true, apart := false, narrowed := true }
def SignSortsUptoSaid : Prop := signSortsUptoRow.holds Try.pinned (OpenSpec.upto signSortsSpec)

/-- 'graticulelaw17.SignChecks', WHERE WHAT IT READS IS OF BULK AT MOST 1048576: true; the input reads as it did. -/
def signChecksUptoRow : OpenClaim := { program := "ytfldpaceebemhaa", sum := "09bbf9e29e347318c91fd9cb6a51a21761f805472f9c5cd8387d4226c0a42ce8", func := "graticule/graticulelaw17.SignChecks", spec := "signChecks", recurses := true, loops := true, apart := false, narrowed := true }
def SignChecksUptoSaid : Prop := signChecksUptoRow.holds Try.pinned (OpenSpec.upto signChecksSpec)

/-- 'graticulelaw17.SignRows', WHERE WHAT IT READS IS OF BULK AT MOST 1048576: true; the input reads as it did. -/
def signRowsUptoRow : OpenClaim := { program := "ytfldpaceebemhaa", sum := "09bbf9e29e347318c91fd9cb6a51a21761f805472f9c5cd8387d4226c0a42ce8", func := "graticule/graticulelaw17.SignRows", spec := "signRows", recurses := true, apart := false, narrowed := true }
def SignRowsUptoSaid : Prop := signRowsUptoRow.holds Try.pinned (OpenSpec.upto signRowsSpec)

/-- 'graticulelaw17.SignMany', WHERE WHAT IT READS IS OF BULK AT MOST 1048576: true; the input reads as it did. -/
def signManyUptoRow : OpenClaim := { program := "ytfldpaceebemhaa", sum := "09bbf9e29e347318c91fd9cb6a51a21761f805472f9c5cd8387d4226c0a42ce8", func := "graticule/graticulelaw17.SignMany", spec := "signMany", recurses := true, apart := false, narrowed := true }
def SignManyUptoSaid : Prop := signManyUptoRow.holds Try.pinned (OpenSpec.upto signManySpec)

end Rows
end Go.Proofs.Ytfldpaceebemhaa
