/-
  NARROWER THAN 'FOR EVERY INPUT', by the rows' own cells (each row's printed sentence says how): TopSorts: loops · TopMirrors: loops · TopDigits: loops · TopTurns: loops.
  DERIVED. THE GIVEN ROWS OF THIS SEAT. 4 by the template 'for every input the law returns true; each argument reads behind the call as it read before'; 0 by the template 'total and deterministic' (their statements: YthgnjimpakpkjaaTotals.lean).
  GIVEN WITH THE SEED: the statements are not yours to turn. If you find one false, say at which input.
  Laid BY PROGRAM, IN A SANDBOX (cutbox-rows.mjs): the forced cells as the released guide's own fill.sh prints them over the translation 4dfce93d1c51162a… (all of the seat's roots in one cut). By AI agents, Wed Nov 11 2026. No macro, syntax, notation, axiom, sorry.
-/
import Derived.Test.YthgnjimpakpkjaaChecked
import GoSem.Claim
import GoSem.ClaimJoined
import GoSem.ClaimMapViews
import Derived.JoinedTies
import Derived.KernelRfl
namespace Go.Proofs.Ythgnjimpakpkjaa
/- THE CELL 'sum', in the pinned program and in every row, IS THE sha256 OF THE DUMP (.gsa) THAT YthgnjimpakpkjaaProg.lean LOADS. Nothing in Lean hashes anything: it is a label: what it is worth is what the hold of that sum in a sandbox is worth. -/
noncomputable def Try.pinned : Pinned := { name := "ythgnjimpakpkjaa", sum := "4dfce93d1c51162a5052948b483421a1aeb389b3c83614f18a2d1c1fd9b2d183", checked := Try.checked }
namespace Rows
def none {H : Type} : Left H := { results := [], args := [] }

/-- 'arraylangtop.TopSorts': WHATEVER THE INPUT: true; the input reads as it did. -/
def topSortsSpec : ChangeSpec := { name := "topSorts", fn := fun _ => fun
  | [d] => { results := [.lit (.bool true)], args := [d] }
  | _ => none }
def topSortsRow : OpenClaim := { program := "ythgnjimpakpkjaa", sum := "4dfce93d1c51162a5052948b483421a1aeb389b3c83614f18a2d1c1fd9b2d183", func := "arraylang/arraylangtop.TopSorts", spec := "topSorts", unfollowed := true, recurses := true, loops := true, apart := false }
def TopSortsSaid : Prop := topSortsRow.holds Try.pinned (OpenSpec.ofChange topSortsSpec)

/-- ITS FALSE NEIGHBOUR: 'it returns false'. Refute it at one input. -/
def topSortsWrong : ChangeSpec := { name := "topSorts", fn := fun _ => fun
  | [d] => { results := [.lit (.bool false)], args := [d] }
  | _ => none }
def TopSortsWrongFalsely : Prop := topSortsRow.holds Try.pinned (OpenSpec.ofChange topSortsWrong)

/-- 'arraylangtop.TopMirrors': WHATEVER THE INPUT: true; the input reads as it did. -/
def topMirrorsSpec : ChangeSpec := { name := "topMirrors", fn := fun _ => fun
  | [d1, d2] => { results := [.lit (.bool true)], args := [d1, d2] }
  | _ => none }
def topMirrorsRow : OpenClaim := { program := "ythgnjimpakpkjaa", sum := "4dfce93d1c51162a5052948b483421a1aeb389b3c83614f18a2d1c1fd9b2d183", func := "arraylang/arraylangtop.TopMirrors", spec := "topMirrors", inPlace := ["slices.overlaps[int]"], unfollowed := true, recurses := true, loops := true, apart := false }
def TopMirrorsSaid : Prop := topMirrorsRow.holds Try.pinned (OpenSpec.ofChange topMirrorsSpec)

/-- ITS FALSE NEIGHBOUR: 'it returns false'. Refute it at one input. -/
def topMirrorsWrong : ChangeSpec := { name := "topMirrors", fn := fun _ => fun
  | [d1, d2] => { results := [.lit (.bool false)], args := [d1, d2] }
  | _ => none }
def TopMirrorsWrongFalsely : Prop := topMirrorsRow.holds Try.pinned (OpenSpec.ofChange topMirrorsWrong)

/-- 'arraylangtop.TopDigits': WHATEVER THE INPUT: true; the input reads as it did. -/
def topDigitsSpec : ChangeSpec := { name := "topDigits", fn := fun _ => fun
  | [d] => { results := [.lit (.bool true)], args := [d] }
  | _ => none }
def topDigitsRow : OpenClaim := { program := "ythgnjimpakpkjaa", sum := "4dfce93d1c51162a5052948b483421a1aeb389b3c83614f18a2d1c1fd9b2d183", func := "arraylang/arraylangtop.TopDigits", spec := "topDigits", unfollowed := true, recurses := true, loops := true, apart := false }
def TopDigitsSaid : Prop := topDigitsRow.holds Try.pinned (OpenSpec.ofChange topDigitsSpec)

/-- ITS FALSE NEIGHBOUR: 'it returns false'. Refute it at one input. -/
def topDigitsWrong : ChangeSpec := { name := "topDigits", fn := fun _ => fun
  | [d] => { results := [.lit (.bool false)], args := [d] }
  | _ => none }
def TopDigitsWrongFalsely : Prop := topDigitsRow.holds Try.pinned (OpenSpec.ofChange topDigitsWrong)

/-- 'arraylangtop.TopTurns': WHATEVER THE INPUT: true; the input reads as it did. -/
def topTurnsSpec : ChangeSpec := { name := "topTurns", fn := fun _ => fun
  | [d1, d2] => { results := [.lit (.bool true)], args := [d1, d2] }
  | _ => none }
def topTurnsRow : OpenClaim := { program := "ythgnjimpakpkjaa", sum := "4dfce93d1c51162a5052948b483421a1aeb389b3c83614f18a2d1c1fd9b2d183", func := "arraylang/arraylangtop.TopTurns", spec := "topTurns", inPlace := ["slices.overlaps[int]"], unfollowed := true, recurses := true, loops := true, apart := false }
def TopTurnsSaid : Prop := topTurnsRow.holds Try.pinned (OpenSpec.ofChange topTurnsSpec)

/-- ITS FALSE NEIGHBOUR: 'it returns false'. Refute it at one input. -/
def topTurnsWrong : ChangeSpec := { name := "topTurns", fn := fun _ => fun
  | [d1, d2] => { results := [.lit (.bool false)], args := [d1, d2] }
  | _ => none }
def TopTurnsWrongFalsely : Prop := topTurnsRow.holds Try.pinned (OpenSpec.ofChange topTurnsWrong)

/- THE SECOND FORM. 'bulk': how many values and letters a reading holds, each counted each time it is reached (what is shared counts as often as it is met; a slice's spare places count too). A statement '..UptoSaid' is the law's where the arguments, and the package variables that the reading takes, are together of bulk at most 1048576: NARROWER than '..Said'. Prove '..Said' where nothing that the law and all that it calls make is longer than what came in: it says more and counts as full. Else prove '..UptoSaid'. A law counts once. -/
mutual
def uptoBulk {H : Type} : DataW H → Nat
  | .lit (.string bytes) => bytes.length + 1
  | .lit _ => 1
  | .nil => 1
  | .ptr d => uptoBulk d + 1
  | .slice elems spare => uptoBulkAll elems + uptoBulkAll spare + 1
  | .agg parts => uptoBulkAll parts + 1
  | .iface _ d => uptoBulk d + 1
  | .map entries => uptoBulkEntries entries + 1
  | .held _ => 1
def uptoBulkAll {H : Type} : List (DataW H) → Nat
  | [] => 0
  | d :: r => uptoBulk d + uptoBulkAll r
def uptoBulkEntries {H : Type} : List (Lit × DataW H) → Nat
  | [] => 0
  | x :: r => uptoBulkEntry x + uptoBulkEntries r
def uptoBulkEntry {H : Type} : Lit × DataW H → Nat
  | (.string bytes, d) => bytes.length + uptoBulk d + 1
  | (_, d) => uptoBulk d + 1
 end
def uptoSmall : (H : Type) → List (DataW H) → Bool := fun _ ds => decide (uptoBulkAll ds ≤ 1048576)
def OpenSpec.upto (s : _root_.Go.ChangeSpec) : _root_.Go.OpenSpec := { _root_.Go.OpenSpec.ofChange s with cond := some uptoSmall }

/-- 'arraylangtop.TopSorts', WHERE WHAT IT READS IS OF BULK AT MOST 1048576: true; the input reads as it did. -/
def topSortsUptoRow : OpenClaim := { program := "ythgnjimpakpkjaa", sum := "4dfce93d1c51162a5052948b483421a1aeb389b3c83614f18a2d1c1fd9b2d183", func := "arraylang/arraylangtop.TopSorts", spec := "topSorts", unfollowed := true, recurses := true, loops := true, apart := false, narrowed := true }
def TopSortsUptoSaid : Prop := topSortsUptoRow.holds Try.pinned (OpenSpec.upto topSortsSpec)

/-- 'arraylangtop.TopMirrors', WHERE WHAT IT READS IS OF BULK AT MOST 1048576: true; the input reads as it did. -/
def topMirrorsUptoRow : OpenClaim := { program := "ythgnjimpakpkjaa", sum := "4dfce93d1c51162a5052948b483421a1aeb389b3c83614f18a2d1c1fd9b2d183", func := "arraylang/arraylangtop.TopMirrors", spec := "topMirrors", inPlace := ["slices.overlaps[int]"], unfollowed := true, recurses := true, loops := true, apart := false, narrowed := true }
def TopMirrorsUptoSaid : Prop := topMirrorsUptoRow.holds Try.pinned (OpenSpec.upto topMirrorsSpec)

/-- 'arraylangtop.TopDigits', WHERE WHAT IT READS IS OF BULK AT MOST 1048576: true; the input reads as it did. -/
def topDigitsUptoRow : OpenClaim := { program := "ythgnjimpakpkjaa", sum := "4dfce93d1c51162a5052948b483421a1aeb389b3c83614f18a2d1c1fd9b2d183", func := "arraylang/arraylangtop.TopDigits", spec := "topDigits", unfollowed := true, recurses := true, loops := true, apart := false, narrowed := true }
def TopDigitsUptoSaid : Prop := topDigitsUptoRow.holds Try.pinned (OpenSpec.upto topDigitsSpec)

/-- 'arraylangtop.TopTurns', WHERE WHAT IT READS IS OF BULK AT MOST 1048576: true; the input reads as it did. -/
def topTurnsUptoRow : OpenClaim := { program := "ythgnjimpakpkjaa", sum := "4dfce93d1c51162a5052948b483421a1aeb389b3c83614f18a2d1c1fd9b2d183", func := "arraylang/arraylangtop.TopTurns", spec := "topTurns", inPlace := ["slices.overlaps[int]"], unfollowed := true, recurses := true, loops := true, apart := false, narrowed := true }
def TopTurnsUptoSaid : Prop := topTurnsUptoRow.holds Try.pinned (OpenSpec.upto topTurnsSpec)

end Rows
end Go.Proofs.Ythgnjimpakpkjaa
