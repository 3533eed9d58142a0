/-
  No cell of these rows narrows 'for every input' (looked for: loops, veiled, ifaces, maps, wideKeys, modest, calm, conditions, laid).
  DERIVED. THE GIVEN ROWS OF THIS SEAT. 12 by the template 'for every input the law returns true; each argument reads behind the call as it read before'; 0 by the template 'total and deterministic' (their statements: YthkjodlddhdeiaaTotals.lean).
  GIVEN WITH THE SEED: the statements are not yours to turn. If you find one false, say at which input.
  Laid BY PROGRAM, IN A SANDBOX (cutbox-rows.mjs): the forced cells as the released guide's own fill.sh prints them over the translation 011562cb53485255… (all of the seat's roots in one cut). By AI agents, Wed Nov 11 2026. No macro, syntax, notation, axiom, sorry.
-/
import Derived.Test.YthkjodlddhdeiaaChecked
import GoSem.Claim
import GoSem.ClaimJoined
import GoSem.ClaimMapViews
import Derived.JoinedTies
import Derived.KernelRfl
namespace Go.Proofs.Ythkjodlddhdeiaa
/- THE CELL 'sum', in the pinned program and in every row, IS THE sha256 OF THE DUMP (.gsa) THAT YthkjodlddhdeiaaProg.lean LOADS. Nothing in Lean hashes anything: it is a label: what it is worth is what the hold of that sum in a sandbox is worth. -/
noncomputable def Try.pinned : Pinned := { name := "ythkjodlddhdeiaa", sum := "011562cb53485255a3483f306b9c072bda93fcf795c03f23a169488c883dc2f2", checked := Try.checked }
namespace Rows
def none {H : Type} : Left H := { results := [], args := [] }

/-- 'decretallaw05.SealPuts': WHATEVER THE INPUT: true; the input reads as it did. -/
def sealPutsSpec : ChangeSpec := { name := "sealPuts", fn := fun _ => fun
  | [d1, d2] => { results := [.lit (.bool true)], args := [d1, d2] }
  | _ => none }
def sealPutsRow : OpenClaim := { program := "ythkjodlddhdeiaa", sum := "011562cb53485255a3483f306b9c072bda93fcf795c03f23a169488c883dc2f2", func := "decretal/decretallaw05.SealPuts", spec := "sealPuts", apart := false }
def SealPutsSaid : Prop := sealPutsRow.holds Try.pinned (OpenSpec.ofChange sealPutsSpec)

/-- ITS FALSE NEIGHBOUR: 'it returns false'. Refute it at one input. -/
def sealPutsWrong : ChangeSpec := { name := "sealPuts", fn := fun _ => fun
  | [d1, d2] => { results := [.lit (.bool false)], args := [d1, d2] }
  | _ => none }
def SealPutsWrongFalsely : Prop := sealPutsRow.holds Try.pinned (OpenSpec.ofChange sealPutsWrong)

/-- 'decretallaw05.SealTorn': WHATEVER THE INPUT: true; the input reads as it did. -/
def sealTornSpec : ChangeSpec := { name := "sealTorn", fn := fun _ => fun
  | [d1, d2, d3, d4] => { results := [.lit (.bool true)], args := [d1, d2, d3, d4] }
  | _ => none }
def sealTornRow : OpenClaim := { program := "ythkjodlddhdeiaa", sum := "011562cb53485255a3483f306b9c072bda93fcf795c03f23a169488c883dc2f2", func := "decretal/decretallaw05.SealTorn", spec := "sealTorn", apart := false }
def SealTornSaid : Prop := sealTornRow.holds Try.pinned (OpenSpec.ofChange sealTornSpec)

/-- ITS FALSE NEIGHBOUR: 'it returns false'. Refute it at one input. -/
def sealTornWrong : ChangeSpec := { name := "sealTorn", fn := fun _ => fun
  | [d1, d2, d3, d4] => { results := [.lit (.bool false)], args := [d1, d2, d3, d4] }
  | _ => none }
def SealTornWrongFalsely : Prop := sealTornRow.holds Try.pinned (OpenSpec.ofChange sealTornWrong)

/-- 'decretallaw04.DiskStays': WHATEVER THE INPUT: true; the input reads as it did. -/
def diskStaysSpec : ChangeSpec := { name := "diskStays", fn := fun _ => fun
  | [d1, d2, d3, d4] => { results := [.lit (.bool true)], args := [d1, d2, d3, d4] }
  | _ => none }
def diskStaysRow : OpenClaim := { program := "ythkjodlddhdeiaa", sum := "011562cb53485255a3483f306b9c072bda93fcf795c03f23a169488c883dc2f2", func := "decretal/decretallaw04.DiskStays", spec := "diskStays", apart := false }
def DiskStaysSaid : Prop := diskStaysRow.holds Try.pinned (OpenSpec.ofChange diskStaysSpec)

/-- ITS FALSE NEIGHBOUR: 'it returns false'. Refute it at one input. -/
def diskStaysWrong : ChangeSpec := { name := "diskStays", fn := fun _ => fun
  | [d1, d2, d3, d4] => { results := [.lit (.bool false)], args := [d1, d2, d3, d4] }
  | _ => none }
def DiskStaysWrongFalsely : Prop := diskStaysRow.holds Try.pinned (OpenSpec.ofChange diskStaysWrong)

/-- 'decretallaw04.DiskPlays': WHATEVER THE INPUT: true; the input reads as it did. -/
def diskPlaysSpec : ChangeSpec := { name := "diskPlays", fn := fun _ => fun
  | [d1, d2] => { results := [.lit (.bool true)], args := [d1, d2] }
  | _ => none }
def diskPlaysRow : OpenClaim := { program := "ythkjodlddhdeiaa", sum := "011562cb53485255a3483f306b9c072bda93fcf795c03f23a169488c883dc2f2", func := "decretal/decretallaw04.DiskPlays", spec := "diskPlays", apart := false }
def DiskPlaysSaid : Prop := diskPlaysRow.holds Try.pinned (OpenSpec.ofChange diskPlaysSpec)

/-- ITS FALSE NEIGHBOUR: 'it returns false'. Refute it at one input. -/
def diskPlaysWrong : ChangeSpec := { name := "diskPlays", fn := fun _ => fun
  | [d1, d2] => { results := [.lit (.bool false)], args := [d1, d2] }
  | _ => none }
def DiskPlaysWrongFalsely : Prop := diskPlaysRow.holds Try.pinned (OpenSpec.ofChange diskPlaysWrong)

/-- 'decretallaw04.DiskSame': WHATEVER THE INPUT: true; the input reads as it did. -/
def diskSameSpec : ChangeSpec := { name := "diskSame", fn := fun _ => fun
  | [d1, d2] => { results := [.lit (.bool true)], args := [d1, d2] }
  | _ => none }
def diskSameRow : OpenClaim := { program := "ythkjodlddhdeiaa", sum := "011562cb53485255a3483f306b9c072bda93fcf795c03f23a169488c883dc2f2", func := "decretal/decretallaw04.DiskSame", spec := "diskSame", apart := false }
def DiskSameSaid : Prop := diskSameRow.holds Try.pinned (OpenSpec.ofChange diskSameSpec)

/-- ITS FALSE NEIGHBOUR: 'it returns false'. Refute it at one input. -/
def diskSameWrong : ChangeSpec := { name := "diskSame", fn := fun _ => fun
  | [d1, d2] => { results := [.lit (.bool false)], args := [d1, d2] }
  | _ => none }
def DiskSameWrongFalsely : Prop := diskSameRow.holds Try.pinned (OpenSpec.ofChange diskSameWrong)

/-- 'decretallaw04.DiskNil': WHATEVER THE INPUT: true; the input reads as it did. -/
def diskNilSpec : ChangeSpec := { name := "diskNil", fn := fun _ => fun
  | [d1, d2, d3] => { results := [.lit (.bool true)], args := [d1, d2, d3] }
  | _ => none }
def diskNilRow : OpenClaim := { program := "ythkjodlddhdeiaa", sum := "011562cb53485255a3483f306b9c072bda93fcf795c03f23a169488c883dc2f2", func := "decretal/decretallaw04.DiskNil", spec := "diskNil", apart := false }
def DiskNilSaid : Prop := diskNilRow.holds Try.pinned (OpenSpec.ofChange diskNilSpec)

/-- ITS FALSE NEIGHBOUR: 'it returns false'. Refute it at one input. -/
def diskNilWrong : ChangeSpec := { name := "diskNil", fn := fun _ => fun
  | [d1, d2, d3] => { results := [.lit (.bool false)], args := [d1, d2, d3] }
  | _ => none }
def DiskNilWrongFalsely : Prop := diskNilRow.holds Try.pinned (OpenSpec.ofChange diskNilWrong)

/-- 'decretallaw07.WalRing': WHATEVER THE INPUT: true; the input reads as it did. -/
def walRingSpec : ChangeSpec := { name := "walRing", fn := fun _ => fun
  | [d1, d2] => { results := [.lit (.bool true)], args := [d1, d2] }
  | _ => none }
def walRingRow : OpenClaim := { program := "ythkjodlddhdeiaa", sum := "011562cb53485255a3483f306b9c072bda93fcf795c03f23a169488c883dc2f2", func := "decretal/decretallaw07.WalRing", spec := "walRing", unfollowed := true, recurses := true, apart := false }
def WalRingSaid : Prop := walRingRow.holds Try.pinned (OpenSpec.ofChange walRingSpec)

/-- ITS FALSE NEIGHBOUR: 'it returns false'. Refute it at one input. -/
def walRingWrong : ChangeSpec := { name := "walRing", fn := fun _ => fun
  | [d1, d2] => { results := [.lit (.bool false)], args := [d1, d2] }
  | _ => none }
def WalRingWrongFalsely : Prop := walRingRow.holds Try.pinned (OpenSpec.ofChange walRingWrong)

/-- 'decretallaw07.WalNil': WHATEVER THE INPUT: true; the input reads as it did. -/
def walNilSpec : ChangeSpec := { name := "walNil", fn := fun _ => fun
  | [d1, d2, d3] => { results := [.lit (.bool true)], args := [d1, d2, d3] }
  | _ => none }
def walNilRow : OpenClaim := { program := "ythkjodlddhdeiaa", sum := "011562cb53485255a3483f306b9c072bda93fcf795c03f23a169488c883dc2f2", func := "decretal/decretallaw07.WalNil", spec := "walNil", unfollowed := true, recurses := true, apart := false }
def WalNilSaid : Prop := walNilRow.holds Try.pinned (OpenSpec.ofChange walNilSpec)

/-- ITS FALSE NEIGHBOUR: 'it returns false'. Refute it at one input. -/
def walNilWrong : ChangeSpec := { name := "walNil", fn := fun _ => fun
  | [d1, d2, d3] => { results := [.lit (.bool false)], args := [d1, d2, d3] }
  | _ => none }
def WalNilWrongFalsely : Prop := walNilRow.holds Try.pinned (OpenSpec.ofChange walNilWrong)

/-- 'decretallaw06.LabelBytes': WHATEVER THE INPUT: true; the input reads as it did. -/
def labelBytesSpec : ChangeSpec := { name := "labelBytes", fn := fun _ => fun
  | [d1, d2, d3] => { results := [.lit (.bool true)], args := [d1, d2, d3] }
  | _ => none }
def labelBytesRow : OpenClaim := { program := "ythkjodlddhdeiaa", sum := "011562cb53485255a3483f306b9c072bda93fcf795c03f23a169488c883dc2f2", func := "decretal/decretallaw06.LabelBytes", spec := "labelBytes", unfollowed := true, recurses := true, apart := false }
def LabelBytesSaid : Prop := labelBytesRow.holds Try.pinned (OpenSpec.ofChange labelBytesSpec)

/-- ITS FALSE NEIGHBOUR: 'it returns false'. Refute it at one input. -/
def labelBytesWrong : ChangeSpec := { name := "labelBytes", fn := fun _ => fun
  | [d1, d2, d3] => { results := [.lit (.bool false)], args := [d1, d2, d3] }
  | _ => none }
def LabelBytesWrongFalsely : Prop := labelBytesRow.holds Try.pinned (OpenSpec.ofChange labelBytesWrong)

/-- 'decretallaw06.LabelBack': WHATEVER THE INPUT: true; the input reads as it did. -/
def labelBackSpec : ChangeSpec := { name := "labelBack", fn := fun _ => fun
  | [d1, d2, d3] => { results := [.lit (.bool true)], args := [d1, d2, d3] }
  | _ => none }
def labelBackRow : OpenClaim := { program := "ythkjodlddhdeiaa", sum := "011562cb53485255a3483f306b9c072bda93fcf795c03f23a169488c883dc2f2", func := "decretal/decretallaw06.LabelBack", spec := "labelBack", unfollowed := true, recurses := true, apart := false }
def LabelBackSaid : Prop := labelBackRow.holds Try.pinned (OpenSpec.ofChange labelBackSpec)

/-- ITS FALSE NEIGHBOUR: 'it returns false'. Refute it at one input. -/
def labelBackWrong : ChangeSpec := { name := "labelBack", fn := fun _ => fun
  | [d1, d2, d3] => { results := [.lit (.bool false)], args := [d1, d2, d3] }
  | _ => none }
def LabelBackWrongFalsely : Prop := labelBackRow.holds Try.pinned (OpenSpec.ofChange labelBackWrong)

/-- 'decretallaw06.LabelNil': WHATEVER THE INPUT: true; the input reads as it did. -/
def labelNilSpec : ChangeSpec := { name := "labelNil", fn := fun _ => fun
  | [d] => { results := [.lit (.bool true)], args := [d] }
  | _ => none }
def labelNilRow : OpenClaim := { program := "ythkjodlddhdeiaa", sum := "011562cb53485255a3483f306b9c072bda93fcf795c03f23a169488c883dc2f2", func := "decretal/decretallaw06.LabelNil", spec := "labelNil", unfollowed := true, recurses := true, apart := false }
def LabelNilSaid : Prop := labelNilRow.holds Try.pinned (OpenSpec.ofChange labelNilSpec)

/-- ITS FALSE NEIGHBOUR: 'it returns false'. Refute it at one input. -/
def labelNilWrong : ChangeSpec := { name := "labelNil", fn := fun _ => fun
  | [d] => { results := [.lit (.bool false)], args := [d] }
  | _ => none }
def LabelNilWrongFalsely : Prop := labelNilRow.holds Try.pinned (OpenSpec.ofChange labelNilWrong)

/-- 'decretallaw06.LabelTurns': WHATEVER THE INPUT: true; the input reads as it did. -/
def labelTurnsSpec : ChangeSpec := { name := "labelTurns", fn := fun _ => fun
  | [d] => { results := [.lit (.bool true)], args := [d] }
  | _ => none }
def labelTurnsRow : OpenClaim := { program := "ythkjodlddhdeiaa", sum := "011562cb53485255a3483f306b9c072bda93fcf795c03f23a169488c883dc2f2", func := "decretal/decretallaw06.LabelTurns", spec := "labelTurns", unfollowed := true, recurses := true, apart := false }
def LabelTurnsSaid : Prop := labelTurnsRow.holds Try.pinned (OpenSpec.ofChange labelTurnsSpec)

/-- ITS FALSE NEIGHBOUR: 'it returns false'. Refute it at one input. -/
def labelTurnsWrong : ChangeSpec := { name := "labelTurns", fn := fun _ => fun
  | [d] => { results := [.lit (.bool false)], args := [d] }
  | _ => none }
def LabelTurnsWrongFalsely : Prop := labelTurnsRow.holds Try.pinned (OpenSpec.ofChange labelTurnsWrong)

/- THE SECOND FORM. 'bulk': how many values and letters a reading holds, each counted each time it is reached (what is shared counts as often as it is met; a slice's spare places count too). A statement '..UptoSaid' is the law's where the arguments, and the package variables that the reading takes, are together of bulk at most 1048576: NARROWER than '..Said'. Prove '..Said' where nothing that the law and all that it calls make is longer than what came in: it says more and counts as full. Else prove '..UptoSaid'. A law counts once. -/
mutual
def uptoBulk {H : Type} : DataW H → Nat
  | .lit (.string bytes) => bytes.length + 1
  | .lit _ => 1
  | .nil => 1
  | .ptr d => uptoBulk d + 1
  | .slice elems spare => uptoBulkAll elems + uptoBulkAll spare + 1
  | .agg parts => uptoBulkAll parts + 1
  | .iface _ d => uptoBulk d + 1
  | .map entries => uptoBulkEntries entries + 1
  | .held _ => 1
def uptoBulkAll {H : Type} : List (DataW H) → Nat
  | [] => 0
  | d :: r => uptoBulk d + uptoBulkAll r
def uptoBulkEntries {H : Type} : List (Lit × DataW H) → Nat
  | [] => 0
  | x :: r => uptoBulkEntry x + uptoBulkEntries r
def uptoBulkEntry {H : Type} : Lit × DataW H → Nat
  | (.string bytes, d) => bytes.length + uptoBulk d + 1
  | (_, d) => uptoBulk d + 1
 end
def uptoSmall : (H : Type) → List (DataW H) → Bool := fun _ ds => decide (uptoBulkAll ds ≤ 1048576)
def OpenSpec.upto (s : _root_.Go.ChangeSpec) : _root_.Go.OpenSpec := { _root_.Go.OpenSpec.ofChange s with cond := some uptoSmall }

/-- 'decretallaw05.SealPuts', WHERE WHAT IT READS IS OF BULK AT MOST 1048576: true; the input reads as it did. -/
def sealPutsUptoRow : OpenClaim := { program := "ythkjodlddhdeiaa", sum := "011562cb53485255a3483f306b9c072bda93fcf795c03f23a169488c883dc2f2", func := "decretal/decretallaw05.SealPuts", spec := "sealPuts", apart := false, narrowed := true }
def SealPutsUptoSaid : Prop := sealPutsUptoRow.holds Try.pinned (OpenSpec.upto sealPutsSpec)

/-- 'decretallaw05.SealTorn', WHERE WHAT IT READS IS OF BULK AT MOST 1048576: true; the input reads as it did. -/
def sealTornUptoRow : OpenClaim := { program := "ythkjodlddhdeiaa", sum := "011562cb53485255a3483f306b9c072bda93fcf795c03f23a169488c883dc2f2", func := "decretal/decretallaw05.SealTorn", spec := "sealTorn", apart := false, narrowed := true }
def SealTornUptoSaid : Prop := sealTornUptoRow.holds Try.pinned (OpenSpec.upto sealTornSpec)

/-- 'decretallaw04.DiskStays', WHERE WHAT IT READS IS OF BULK AT MOST 1048576: true; the input reads as it did. -/
def diskStaysUptoRow : OpenClaim := { program := "ythkjodlddhdeiaa", sum := "011562cb53485255a3483f306b9c072bda93fcf795c03f23a169488c883dc2f2", func := "decretal/decretallaw04.DiskStays", spec := "diskStays", apart := false, narrowed := true }
def DiskStaysUptoSaid : Prop := diskStaysUptoRow.holds Try.pinned (OpenSpec.upto diskStaysSpec)

/-- 'decretallaw04.DiskPlays', WHERE WHAT IT READS IS OF BULK AT MOST 1048576: true; the input reads as it did. -/
def diskPlaysUptoRow : OpenClaim := { program := "ythkjodlddhdeiaa", sum := "011562cb53485255a3483f306b9c072bda93fcf795c03f23a169488c883dc2f2", func := "decretal/decretallaw04.DiskPlays", spec := "diskPlays", apart := false, narrowed := true }
def DiskPlaysUptoSaid : Prop := diskPlaysUptoRow.holds Try.pinned (OpenSpec.upto diskPlaysSpec)

/-- 'decretallaw04.DiskSame', WHERE WHAT IT READS IS OF BULK AT MOST 1048576: true; the input reads as it did. -/
def diskSameUptoRow : OpenClaim := { program := "ythkjodlddhdeiaa", sum := "011562cb53485255a3483f306b9c072bda93fcf795c03f23a169488c883dc2f2", func := "decretal/decretallaw04.DiskSame", spec := "diskSame", apart := false, narrowed := true }
def DiskSameUptoSaid : Prop := diskSameUptoRow.holds Try.pinned (OpenSpec.upto diskSameSpec)

/-- 'decretallaw04.DiskNil', WHERE WHAT IT READS IS OF BULK AT MOST 1048576: true; the input reads as it did. -/
def diskNilUptoRow : OpenClaim := { program := "ythkjodlddhdeiaa", sum := "011562cb53485255a3483f306b9c072bda93fcf795c03f23a169488c883dc2f2", func := "decretal/decretallaw04.DiskNil", spec := "diskNil", apart := false, narrowed := true }
def DiskNilUptoSaid : Prop := diskNilUptoRow.holds Try.pinned (OpenSpec.upto diskNilSpec)

/-- 'decretallaw07.WalRing', WHERE WHAT IT READS IS OF BULK AT MOST 1048576: true; the input reads as it did. -/
def walRingUptoRow : OpenClaim := { program := "ythkjodlddhdeiaa", sum := "011562cb53485255a3483f306b9c072bda93fcf795c03f23a169488c883dc2f2", func := "decretal/decretallaw07.WalRing", spec := "walRing", unfollowed := true, recurses := true, apart := false, narrowed := true }
def WalRingUptoSaid : Prop := walRingUptoRow.holds Try.pinned (OpenSpec.upto walRingSpec)

/-- 'decretallaw07.WalNil', WHERE WHAT IT READS IS OF BULK AT MOST 1048576: true; the input reads as it did. -/
def walNilUptoRow : OpenClaim := { program := "ythkjodlddhdeiaa", sum := "011562cb53485255a3483f306b9c072bda93fcf795c03f23a169488c883dc2f2", func := "decretal/decretallaw07.WalNil", spec := "walNil", unfollowed := true, recurses := true, apart := false, narrowed := true }
def WalNilUptoSaid : Prop := walNilUptoRow.holds Try.pinned (OpenSpec.upto walNilSpec)

/-- 'decretallaw06.LabelBytes', WHERE WHAT IT READS IS OF BULK AT MOST 1048576: true; the input reads as it did. -/
def labelBytesUptoRow : OpenClaim := { program := "ythkjodlddhdeiaa", sum := "011562cb53485255a3483f306b9c072bda93fcf795c03f23a169488c883dc2f2", func := "decretal/decretallaw06.LabelBytes", spec := "labelBytes", unfollowed := true, recurses := true, apart := false, narrowed := true }
def LabelBytesUptoSaid : Prop := labelBytesUptoRow.holds Try.pinned (OpenSpec.upto labelBytesSpec)

/-- 'decretallaw06.LabelBack', WHERE WHAT IT READS IS OF BULK AT MOST 1048576: true; the input reads as it did. -/
def labelBackUptoRow : OpenClaim := { program := "ythkjodlddhdeiaa", sum := "011562cb53485255a3483f306b9c072bda93fcf795c03f23a169488c883dc2f2", func := "decretal/decretallaw06.LabelBack", spec := "labelBack", unfollowed := true, recurses := true, apart := false, narrowed := true }
def LabelBackUptoSaid : Prop := labelBackUptoRow.holds Try.pinned (OpenSpec.upto labelBackSpec)

/-- 'decretallaw06.LabelNil', WHERE WHAT IT READS IS OF BULK AT MOST 1048576: true; the input reads as it did. -/
def labelNilUptoRow : OpenClaim := { program := "ythkjodlddhdeiaa", sum := "011562cb53485255a3483f306b9c072bda93fcf795c03f23a169488c883dc2f2", func := "decretal/decretallaw06.LabelNil", spec := "labelNil", unfollowed := true, recurses := true, apart := false, narrowed := true }
def LabelNilUptoSaid : Prop := labelNilUptoRow.holds Try.pinned (OpenSpec.upto labelNilSpec)

/-- 'decretallaw06.LabelTurns', WHERE WHAT IT READS IS OF BULK AT MOST 1048576: true; the input reads as it did. -/
def labelTurnsUptoRow : OpenClaim := { program := "ythkjodlddhdeiaa", sum := "011562cb53485255a3483f306b9c072bda93fcf795c03f23a169488c883dc2f2", func := "decretal/decretallaw06.LabelTurns", spec := "labelTurns", unfollowed := true, recurses := true, apart := false, narrowed := true }
def LabelTurnsUptoSaid : Prop := labelTurnsUptoRow.holds Try.pinned (OpenSpec.upto labelTurnsSpec)

end Rows
end Go.Proofs.Ythkjodlddhdeiaa
