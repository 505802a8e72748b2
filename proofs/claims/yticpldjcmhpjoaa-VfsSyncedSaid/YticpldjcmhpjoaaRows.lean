/-
  No cell of these rows narrows 'for every input' (looked for: loops, veiled, ifaces, maps, wideKeys, modest, calm, conditions, laid).
  DERIVED. THE GIVEN ROWS OF THIS SEAT. 5 by the template 'for every input the law returns true; each argument reads behind the call as it read before'; 0 by the template 'total and deterministic' (their statements: YticpldjcmhpjoaaTotals.lean).
  GIVEN WITH THE SEED: the statements are not yours to turn. If you find one false, say at which input.
  Laid BY PROGRAM, IN A SANDBOX (cutbox-rows.mjs): the forced cells as the released guide's own fill.sh prints them over the translation 662382407bcc7f9f… (all of the seat's roots in one cut). By AI agents, Wed Nov 11 2026. No macro, syntax, notation, axiom, sorry.
-/
import Derived.Test.YticpldjcmhpjoaaChecked
import GoSem.Claim
import GoSem.ClaimJoined
import GoSem.ClaimMapViews
import Derived.JoinedTies
import Derived.KernelRfl
namespace Go.Proofs.Yticpldjcmhpjoaa
/- THE CELL 'sum', in the pinned program and in every row, IS THE sha256 OF THE DUMP (.gsa) THAT YticpldjcmhpjoaaProg.lean LOADS. Nothing in Lean hashes anything: it is a label: what it is worth is what the hold of that sum in a sandbox is worth. -/
noncomputable def Try.pinned : Pinned := { name := "yticpldjcmhpjoaa", sum := "662382407bcc7f9ff52531a30bb56a6fb1ad593f4be5dd24ca84f21cad8684a1", checked := Try.checked }
namespace Rows
def none {H : Type} : Left H := { results := [], args := [] }

/-- 'graticulelaw3.VfsOwn': WHATEVER THE INPUT: true; the input reads as it did. -/
def vfsOwnSpec : ChangeSpec := { name := "vfsOwn", fn := fun _ => fun
  | [d1, d2] => { results := [.lit (.bool true)], args := [d1, d2] }
  | _ => none }
def vfsOwnRow : OpenClaim := { program := "yticpldjcmhpjoaa", sum := "662382407bcc7f9ff52531a30bb56a6fb1ad593f4be5dd24ca84f21cad8684a1", func := "graticule/graticulelaw3.VfsOwn", spec := "vfsOwn", inPlace := ["internal/bytealg.MakeNoZero", "maps.clone"], apart := false }
def VfsOwnSaid : Prop := vfsOwnRow.holds Try.pinned (OpenSpec.ofChange vfsOwnSpec)

/-- ITS FALSE NEIGHBOUR: 'it returns false'. Refute it at one input. -/
def vfsOwnWrong : ChangeSpec := { name := "vfsOwn", fn := fun _ => fun
  | [d1, d2] => { results := [.lit (.bool false)], args := [d1, d2] }
  | _ => none }
def VfsOwnWrongFalsely : Prop := vfsOwnRow.holds Try.pinned (OpenSpec.ofChange vfsOwnWrong)

/-- 'graticulelaw3.VfsRoom': WHATEVER THE INPUT: true; the input reads as it did. -/
def vfsRoomSpec : ChangeSpec := { name := "vfsRoom", fn := fun _ => fun
  | [d1, d2] => { results := [.lit (.bool true)], args := [d1, d2] }
  | _ => none }
def vfsRoomRow : OpenClaim := { program := "yticpldjcmhpjoaa", sum := "662382407bcc7f9ff52531a30bb56a6fb1ad593f4be5dd24ca84f21cad8684a1", func := "graticule/graticulelaw3.VfsRoom", spec := "vfsRoom", inPlace := ["internal/bytealg.MakeNoZero", "maps.clone"], apart := false }
def VfsRoomSaid : Prop := vfsRoomRow.holds Try.pinned (OpenSpec.ofChange vfsRoomSpec)

/-- ITS FALSE NEIGHBOUR: 'it returns false'. Refute it at one input. -/
def vfsRoomWrong : ChangeSpec := { name := "vfsRoom", fn := fun _ => fun
  | [d1, d2] => { results := [.lit (.bool false)], args := [d1, d2] }
  | _ => none }
def VfsRoomWrongFalsely : Prop := vfsRoomRow.holds Try.pinned (OpenSpec.ofChange vfsRoomWrong)

/-- 'graticulelaw3.VfsPlays': WHATEVER THE INPUT: true; the input reads as it did. -/
def vfsPlaysSpec : ChangeSpec := { name := "vfsPlays", fn := fun _ => fun
  | [d1, d2] => { results := [.lit (.bool true)], args := [d1, d2] }
  | _ => none }
def vfsPlaysRow : OpenClaim := { program := "yticpldjcmhpjoaa", sum := "662382407bcc7f9ff52531a30bb56a6fb1ad593f4be5dd24ca84f21cad8684a1", func := "graticule/graticulelaw3.VfsPlays", spec := "vfsPlays", inPlace := ["internal/bytealg.MakeNoZero", "maps.clone"], unfollowed := true, recurses := true, apart := false }
def VfsPlaysSaid : Prop := vfsPlaysRow.holds Try.pinned (OpenSpec.ofChange vfsPlaysSpec)

/-- ITS FALSE NEIGHBOUR: 'it returns false'. Refute it at one input. -/
def vfsPlaysWrong : ChangeSpec := { name := "vfsPlays", fn := fun _ => fun
  | [d1, d2] => { results := [.lit (.bool false)], args := [d1, d2] }
  | _ => none }
def VfsPlaysWrongFalsely : Prop := vfsPlaysRow.holds Try.pinned (OpenSpec.ofChange vfsPlaysWrong)

/-- 'graticulelaw3.VfsSynced': WHATEVER THE INPUT: true; the input reads as it did. -/
def vfsSyncedSpec : ChangeSpec := { name := "vfsSynced", fn := fun _ => fun
  | [d1, d2, d3, d4] => { results := [.lit (.bool true)], args := [d1, d2, d3, d4] }
  | _ => none }
def vfsSyncedRow : OpenClaim := { program := "yticpldjcmhpjoaa", sum := "662382407bcc7f9ff52531a30bb56a6fb1ad593f4be5dd24ca84f21cad8684a1", func := "graticule/graticulelaw3.VfsSynced", spec := "vfsSynced", inPlace := ["internal/bytealg.MakeNoZero", "maps.clone"], unfollowed := true, recurses := true, apart := false }
def VfsSyncedSaid : Prop := vfsSyncedRow.holds Try.pinned (OpenSpec.ofChange vfsSyncedSpec)

/-- ITS FALSE NEIGHBOUR: 'it returns false'. Refute it at one input. -/
def vfsSyncedWrong : ChangeSpec := { name := "vfsSynced", fn := fun _ => fun
  | [d1, d2, d3, d4] => { results := [.lit (.bool false)], args := [d1, d2, d3, d4] }
  | _ => none }
def VfsSyncedWrongFalsely : Prop := vfsSyncedRow.holds Try.pinned (OpenSpec.ofChange vfsSyncedWrong)

/-- 'graticulelaw3.VfsOfNothing': WHATEVER THE INPUT: true; the input reads as it did. -/
def vfsOfNothingSpec : ChangeSpec := { name := "vfsOfNothing", fn := fun _ => fun
  | [d1, d2, d3] => { results := [.lit (.bool true)], args := [d1, d2, d3] }
  | _ => none }
def vfsOfNothingRow : OpenClaim := { program := "yticpldjcmhpjoaa", sum := "662382407bcc7f9ff52531a30bb56a6fb1ad593f4be5dd24ca84f21cad8684a1", func := "graticule/graticulelaw3.VfsOfNothing", spec := "vfsOfNothing", inPlace := ["maps.clone", "internal/bytealg.MakeNoZero"], unfollowed := true, recurses := true, apart := false }
def VfsOfNothingSaid : Prop := vfsOfNothingRow.holds Try.pinned (OpenSpec.ofChange vfsOfNothingSpec)

/-- ITS FALSE NEIGHBOUR: 'it returns false'. Refute it at one input. -/
def vfsOfNothingWrong : ChangeSpec := { name := "vfsOfNothing", fn := fun _ => fun
  | [d1, d2, d3] => { results := [.lit (.bool false)], args := [d1, d2, d3] }
  | _ => none }
def VfsOfNothingWrongFalsely : Prop := vfsOfNothingRow.holds Try.pinned (OpenSpec.ofChange vfsOfNothingWrong)

/- THE SECOND FORM. 'bulk': how many values and letters a reading holds, each counted each time it is reached (what is shared counts as often as it is met; a slice's spare places count too). A statement '..UptoSaid' is the law's where the arguments, and the package variables that the reading takes, are together of bulk at most 1048576: NARROWER than '..Said'. Prove '..Said' where nothing that the law and all that it calls make is longer than what came in: it says more and counts as full. Else prove '..UptoSaid'. A law counts once. -/
mutual
def uptoBulk {H : Type} : DataW H → Nat
  | .lit (.string bytes) => bytes.length + 1
  | .lit _ => 1
  | .nil => 1
  | .ptr d => uptoBulk d + 1
  | .slice elems spare => uptoBulkAll elems + uptoBulkAll spare + 1
  | .agg parts => uptoBulkAll parts + 1
  | .iface _ d => uptoBulk d + 1
  | .map entries => uptoBulkEntries entries + 1
  | .held _ => 1
def uptoBulkAll {H : Type} : List (DataW H) → Nat
  | [] => 0
  | d :: r => uptoBulk d + uptoBulkAll r
def uptoBulkEntries {H : Type} : List (Lit × DataW H) → Nat
  | [] => 0
  | x :: r => uptoBulkEntry x + uptoBulkEntries r
def uptoBulkEntry {H : Type} : Lit × DataW H → Nat
  | (.string bytes, d) => bytes.length + uptoBulk d + 1
  | (_, d) => uptoBulk d + 1
 end
def uptoSmall : (H : Type) → List (DataW H) → Bool := fun _ ds => decide (uptoBulkAll ds ≤ 1048576)
def OpenSpec.upto (s : _root_.Go.ChangeSpec) : _root_.Go.OpenSpec := { _root_.Go.OpenSpec.ofChange s with cond := some uptoSmall }

/-- 'graticulelaw3.VfsOwn', WHERE WHAT IT READS IS OF BULK AT MOST 1048576: true; the input reads as it did. -/
def vfsOwnUptoRow : OpenClaim := { program := "yticpldjcmhpjoaa", sum := "662382407bcc7f9ff52531a30bb56a6fb1ad593f4be5dd24ca84f21cad8684a1", func := "graticule/graticulelaw3.VfsOwn", spec := "vfsOwn", inPlace := ["internal/bytealg.MakeNoZero", "maps.clone"], apart := false, narrowed := true }
def VfsOwnUptoSaid : Prop := vfsOwnUptoRow.holds Try.pinned (OpenSpec.upto vfsOwnSpec)

/-- 'graticulelaw3.VfsRoom', WHERE WHAT IT READS IS OF BULK AT MOST 1048576: true; the input reads as it did. -/
def vfsRoomUptoRow : OpenClaim := { program := "yticpldjcmhpjoaa", sum := "662382407bcc7f9ff52531a30bb56a6fb1ad593f4be5dd24ca84f21cad8684a1", func := "graticule/graticulelaw3.VfsRoom", spec := "vfsRoom", inPlace := ["internal/bytealg.MakeNoZero", "maps.clone"], apart := false, narrowed := true }
def VfsRoomUptoSaid : Prop := vfsRoomUptoRow.holds Try.pinned (OpenSpec.upto vfsRoomSpec)

/-- 'graticulelaw3.VfsPlays', WHERE WHAT IT READS IS OF BULK AT MOST 1048576: true; the input reads as it did. -/
def vfsPlaysUptoRow : OpenClaim := { program := "yticpldjcmhpjoaa", sum := "662382407bcc7f9ff52531a30bb56a6fb1ad593f4be5dd24ca84f21cad8684a1", func := "graticule/graticulelaw3.VfsPlays", spec := "vfsPlays", inPlace := ["internal/bytealg.MakeNoZero", "maps.clone"], unfollowed := true, recurses := true, apart := false, narrowed := true }
def VfsPlaysUptoSaid : Prop := vfsPlaysUptoRow.holds Try.pinned (OpenSpec.upto vfsPlaysSpec)

/-- 'graticulelaw3.VfsSynced', WHERE WHAT IT READS IS OF BULK AT MOST 1048576: true; the input reads as it did. -/
def vfsSyncedUptoRow : OpenClaim := { program := "yticpldjcmhpjoaa", sum := "662382407bcc7f9ff52531a30bb56a6fb1ad593f4be5dd24ca84f21cad8684a1", func := "graticule/graticulelaw3.VfsSynced", spec := "vfsSynced", inPlace := ["internal/bytealg.MakeNoZero", "maps.clone"], unfollowed := true, recurses := true, apart := false, narrowed := true }
def VfsSyncedUptoSaid : Prop := vfsSyncedUptoRow.holds Try.pinned (OpenSpec.upto vfsSyncedSpec)

/-- 'graticulelaw3.VfsOfNothing', WHERE WHAT IT READS IS OF BULK AT MOST 1048576: true; the input reads as it did. -/
def vfsOfNothingUptoRow : OpenClaim := { program := "yticpldjcmhpjoaa", sum := "662382407bcc7f9ff52531a30bb56a6fb1ad593f4be5dd24ca84f21cad8684a1", func := "graticule/graticulelaw3.VfsOfNothing", spec := "vfsOfNothing", inPlace := ["maps.clone", "internal/bytealg.MakeNoZero"], unfollowed := true, recurses := true, apart := false, narrowed := true }
def VfsOfNothingUptoSaid : Prop := vfsOfNothingUptoRow.holds Try.pinned (OpenSpec.upto vfsOfNothingSpec)

end Rows
end Go.Proofs.Yticpldjcmhpjoaa
