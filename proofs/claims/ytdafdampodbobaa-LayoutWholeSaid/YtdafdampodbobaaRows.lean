/-
  No cell of these rows narrows 'for every input' (looked for: loops, veiled, ifaces, maps, wideKeys, modest, calm, conditions, laid).
  DERIVED. THE GIVEN ROWS OF THIS SEAT. 6 by the template 'for every input the law returns true; each argument reads behind the call as it read before'; 0 by the template 'total and deterministic' (their statements: YtdafdampodbobaaTotals.lean).
  GIVEN WITH THE SEED: the statements are not yours to turn. If you find one false, say at which input.
  Laid BY PROGRAM, IN A SANDBOX (cutbox-rows.mjs): the forced cells as the released guide's own fill.sh prints them over the translation 938f721b3551a7f8… (all of the seat's roots in one cut). By AI agents, Wed Nov 11 2026. No macro, syntax, notation, axiom, sorry.
-/
import Derived.Test.YtdafdampodbobaaChecked
import GoSem.Claim
import GoSem.ClaimJoined
import GoSem.ClaimMapViews
import Derived.JoinedTies
import Derived.KernelRfl
namespace Go.Proofs.Ytdafdampodbobaa
/- THE CELL 'sum', in the pinned program and in every row, IS THE sha256 OF THE DUMP (.gsa) THAT YtdafdampodbobaaProg.lean LOADS. Nothing in Lean hashes anything: it is a label: what it is worth is what the hold of that sum in a sandbox is worth. -/
noncomputable def Try.pinned : Pinned := { name := "ytdafdampodbobaa", sum := "938f721b3551a7f826253aa14f076b9c9598ba9813365e80cae214906bc00754", checked := Try.checked }
namespace Rows
def none {H : Type} : Left H := { results := [], args := [] }

/-- 'inkhornlaw18.LayoutSplits': WHATEVER THE INPUT: true; the input reads as it did. -/
def layoutSplitsSpec : ChangeSpec := { name := "layoutSplits", fn := fun _ => fun
  | [d1, d2, d3, d4] => { results := [.lit (.bool true)], args := [d1, d2, d3, d4] }
  | _ => none }
def layoutSplitsRow : OpenClaim := { program := "ytdafdampodbobaa", sum := "938f721b3551a7f826253aa14f076b9c9598ba9813365e80cae214906bc00754", func := "inkhorn/inkhornlaw18.LayoutSplits", spec := "layoutSplits", unfollowed := true, recurses := true, apart := false }
def LayoutSplitsSaid : Prop := layoutSplitsRow.holds Try.pinned (OpenSpec.ofChange layoutSplitsSpec)

/-- ITS FALSE NEIGHBOUR: 'it returns false'. Refute it at one input. -/
def layoutSplitsWrong : ChangeSpec := { name := "layoutSplits", fn := fun _ => fun
  | [d1, d2, d3, d4] => { results := [.lit (.bool false)], args := [d1, d2, d3, d4] }
  | _ => none }
def LayoutSplitsWrongFalsely : Prop := layoutSplitsRow.holds Try.pinned (OpenSpec.ofChange layoutSplitsWrong)

/-- 'inkhornlaw18.LayoutGoes': WHATEVER THE INPUT: true; the input reads as it did. -/
def layoutGoesSpec : ChangeSpec := { name := "layoutGoes", fn := fun _ => fun
  | [d1, d2, d3] => { results := [.lit (.bool true)], args := [d1, d2, d3] }
  | _ => none }
def layoutGoesRow : OpenClaim := { program := "ytdafdampodbobaa", sum := "938f721b3551a7f826253aa14f076b9c9598ba9813365e80cae214906bc00754", func := "inkhorn/inkhornlaw18.LayoutGoes", spec := "layoutGoes", unfollowed := true, recurses := true, apart := false }
def LayoutGoesSaid : Prop := layoutGoesRow.holds Try.pinned (OpenSpec.ofChange layoutGoesSpec)

/-- ITS FALSE NEIGHBOUR: 'it returns false'. Refute it at one input. -/
def layoutGoesWrong : ChangeSpec := { name := "layoutGoes", fn := fun _ => fun
  | [d1, d2, d3] => { results := [.lit (.bool false)], args := [d1, d2, d3] }
  | _ => none }
def LayoutGoesWrongFalsely : Prop := layoutGoesRow.holds Try.pinned (OpenSpec.ofChange layoutGoesWrong)

/-- 'inkhornlaw18.LayoutPlays': WHATEVER THE INPUT: true; the input reads as it did. -/
def layoutPlaysSpec : ChangeSpec := { name := "layoutPlays", fn := fun _ => fun
  | [d1, d2, d3] => { results := [.lit (.bool true)], args := [d1, d2, d3] }
  | _ => none }
def layoutPlaysRow : OpenClaim := { program := "ytdafdampodbobaa", sum := "938f721b3551a7f826253aa14f076b9c9598ba9813365e80cae214906bc00754", func := "inkhorn/inkhornlaw18.LayoutPlays", spec := "layoutPlays", unfollowed := true, recurses := true, apart := false }
def LayoutPlaysSaid : Prop := layoutPlaysRow.holds Try.pinned (OpenSpec.ofChange layoutPlaysSpec)

/-- ITS FALSE NEIGHBOUR: 'it returns false'. Refute it at one input. -/
def layoutPlaysWrong : ChangeSpec := { name := "layoutPlays", fn := fun _ => fun
  | [d1, d2, d3] => { results := [.lit (.bool false)], args := [d1, d2, d3] }
  | _ => none }
def LayoutPlaysWrongFalsely : Prop := layoutPlaysRow.holds Try.pinned (OpenSpec.ofChange layoutPlaysWrong)

/-- 'inkhornlaw18.LayoutApart': WHATEVER THE INPUT: true; the input reads as it did. -/
def layoutApartSpec : ChangeSpec := { name := "layoutApart", fn := fun _ => fun
  | [d1, d2, d3] => { results := [.lit (.bool true)], args := [d1, d2, d3] }
  | _ => none }
def layoutApartRow : OpenClaim := { program := "ytdafdampodbobaa", sum := "938f721b3551a7f826253aa14f076b9c9598ba9813365e80cae214906bc00754", func := "inkhorn/inkhornlaw18.LayoutApart", spec := "layoutApart", unfollowed := true, recurses := true, apart := false }
def LayoutApartSaid : Prop := layoutApartRow.holds Try.pinned (OpenSpec.ofChange layoutApartSpec)

/-- ITS FALSE NEIGHBOUR: 'it returns false'. Refute it at one input. -/
def layoutApartWrong : ChangeSpec := { name := "layoutApart", fn := fun _ => fun
  | [d1, d2, d3] => { results := [.lit (.bool false)], args := [d1, d2, d3] }
  | _ => none }
def LayoutApartWrongFalsely : Prop := layoutApartRow.holds Try.pinned (OpenSpec.ofChange layoutApartWrong)

/-- 'inkhornlaw18.LayoutWhole': WHATEVER THE INPUT: true; the input reads as it did. -/
def layoutWholeSpec : ChangeSpec := { name := "layoutWhole", fn := fun _ => fun
  | [d1, d2, d3] => { results := [.lit (.bool true)], args := [d1, d2, d3] }
  | _ => none }
def layoutWholeRow : OpenClaim := { program := "ytdafdampodbobaa", sum := "938f721b3551a7f826253aa14f076b9c9598ba9813365e80cae214906bc00754", func := "inkhorn/inkhornlaw18.LayoutWhole", spec := "layoutWhole", unfollowed := true, recurses := true, apart := false }
def LayoutWholeSaid : Prop := layoutWholeRow.holds Try.pinned (OpenSpec.ofChange layoutWholeSpec)

/-- ITS FALSE NEIGHBOUR: 'it returns false'. Refute it at one input. -/
def layoutWholeWrong : ChangeSpec := { name := "layoutWhole", fn := fun _ => fun
  | [d1, d2, d3] => { results := [.lit (.bool false)], args := [d1, d2, d3] }
  | _ => none }
def LayoutWholeWrongFalsely : Prop := layoutWholeRow.holds Try.pinned (OpenSpec.ofChange layoutWholeWrong)

/-- 'inkhornlaw18.LayoutNone': WHATEVER THE INPUT: true; the input reads as it did. -/
def layoutNoneSpec : ChangeSpec := { name := "layoutNone", fn := fun _ => fun
  | [d1, d2] => { results := [.lit (.bool true)], args := [d1, d2] }
  | _ => none }
def layoutNoneRow : OpenClaim := { program := "ytdafdampodbobaa", sum := "938f721b3551a7f826253aa14f076b9c9598ba9813365e80cae214906bc00754", func := "inkhorn/inkhornlaw18.LayoutNone", spec := "layoutNone", unfollowed := true, recurses := true, apart := false }
def LayoutNoneSaid : Prop := layoutNoneRow.holds Try.pinned (OpenSpec.ofChange layoutNoneSpec)

/-- ITS FALSE NEIGHBOUR: 'it returns false'. Refute it at one input. -/
def layoutNoneWrong : ChangeSpec := { name := "layoutNone", fn := fun _ => fun
  | [d1, d2] => { results := [.lit (.bool false)], args := [d1, d2] }
  | _ => none }
def LayoutNoneWrongFalsely : Prop := layoutNoneRow.holds Try.pinned (OpenSpec.ofChange layoutNoneWrong)

/- THE SECOND FORM. 'bulk': how many values and letters a reading holds, each counted each time it is reached (what is shared counts as often as it is met; a slice's spare places count too). A statement '..UptoSaid' is the law's where the arguments, and the package variables that the reading takes, are together of bulk at most 1048576: NARROWER than '..Said'. Prove '..Said' where nothing that the law and all that it calls make is longer than what came in: it says more and counts as full. Else prove '..UptoSaid'. A law counts once. -/
mutual
def uptoBulk {H : Type} : DataW H → Nat
  | .lit (.string bytes) => bytes.length + 1
  | .lit _ => 1
  | .nil => 1
  | .ptr d => uptoBulk d + 1
  | .slice elems spare => uptoBulkAll elems + uptoBulkAll spare + 1
  | .agg parts => uptoBulkAll parts + 1
  | .iface _ d => uptoBulk d + 1
  | .map entries => uptoBulkEntries entries + 1
  | .held _ => 1
def uptoBulkAll {H : Type} : List (DataW H) → Nat
  | [] => 0
  | d :: r => uptoBulk d + uptoBulkAll r
def uptoBulkEntries {H : Type} : List (Lit × DataW H) → Nat
  | [] => 0
  | x :: r => uptoBulkEntry x + uptoBulkEntries r
def uptoBulkEntry {H : Type} : Lit × DataW H → Nat
  | (.string bytes, d) => bytes.length + uptoBulk d + 1
  | (_, d) => uptoBulk d + 1
 end
def uptoSmall : (H : Type) → List (DataW H) → Bool := fun _ ds => decide (uptoBulkAll ds ≤ 1048576)
def OpenSpec.upto (s : _root_.Go.ChangeSpec) : _root_.Go.OpenSpec := { _root_.Go.OpenSpec.ofChange s with cond := some uptoSmall }

/-- 'inkhornlaw18.LayoutSplits', WHERE WHAT IT READS IS OF BULK AT MOST 1048576: true; the input reads as it did. -/
def layoutSplitsUptoRow : OpenClaim := { program := "ytdafdampodbobaa", sum := "938f721b3551a7f826253aa14f076b9c9598ba9813365e80cae214906bc00754", func := "inkhorn/inkhornlaw18.LayoutSplits", spec := "layoutSplits", unfollowed := true, recurses := true, apart := false, narrowed := true }
def LayoutSplitsUptoSaid : Prop := layoutSplitsUptoRow.holds Try.pinned (OpenSpec.upto layoutSplitsSpec)

/-- 'inkhornlaw18.LayoutGoes', WHERE WHAT IT READS IS OF BULK AT MOST 1048576: true; the input reads as it did. -/
def layoutGoesUptoRow : OpenClaim := { program := "ytdafdampodbobaa", sum := "938f721b3551a7f826253aa14f076b9c9598ba9813365e80cae214906bc00754", func := "inkhorn/inkhornlaw18.LayoutGoes", spec := "layoutGoes", unfollowed := true, recurses := true, apart := false, narrowed := true }
def LayoutGoesUptoSaid : Prop := layoutGoesUptoRow.holds Try.pinned (OpenSpec.upto layoutGoesSpec)

/-- 'inkhornlaw18.LayoutPlays', WHERE WHAT IT READS IS OF BULK AT MOST 1048576: true; the input reads as it did. -/
def layoutPlaysUptoRow : OpenClaim := { program := "ytdafdampodbobaa", sum := "938f721b3551a7f826253aa14f076b9c9598ba9813365e80cae214906bc00754", func := "inkhorn/inkhornlaw18.LayoutPlays", spec := "layoutPlays", unfollowed := true, recurses := true, apart := false, narrowed := true }
def LayoutPlaysUptoSaid : Prop := layoutPlaysUptoRow.holds Try.pinned (OpenSpec.upto layoutPlaysSpec)

/-- 'inkhornlaw18.LayoutApart', WHERE WHAT IT READS IS OF BULK AT MOST 1048576: true; the input reads as it did. -/
def layoutApartUptoRow : OpenClaim := { program := "ytdafdampodbobaa", sum := "938f721b3551a7f826253aa14f076b9c9598ba9813365e80cae214906bc00754", func := "inkhorn/inkhornlaw18.LayoutApart", spec := "layoutApart", unfollowed := true, recurses := true, apart := false, narrowed := true }
def LayoutApartUptoSaid : Prop := layoutApartUptoRow.holds Try.pinned (OpenSpec.upto layoutApartSpec)

/-- 'inkhornlaw18.LayoutWhole', WHERE WHAT IT READS IS OF BULK AT MOST 1048576: true; the input reads as it did. -/
def layoutWholeUptoRow : OpenClaim := { program := "ytdafdampodbobaa", sum := "938f721b3551a7f826253aa14f076b9c9598ba9813365e80cae214906bc00754", func := "inkhorn/inkhornlaw18.LayoutWhole", spec := "layoutWhole", unfollowed := true, recurses := true, apart := false, narrowed := true }
def LayoutWholeUptoSaid : Prop := layoutWholeUptoRow.holds Try.pinned (OpenSpec.upto layoutWholeSpec)

/-- 'inkhornlaw18.LayoutNone', WHERE WHAT IT READS IS OF BULK AT MOST 1048576: true; the input reads as it did. -/
def layoutNoneUptoRow : OpenClaim := { program := "ytdafdampodbobaa", sum := "938f721b3551a7f826253aa14f076b9c9598ba9813365e80cae214906bc00754", func := "inkhorn/inkhornlaw18.LayoutNone", spec := "layoutNone", unfollowed := true, recurses := true, apart := false, narrowed := true }
def LayoutNoneUptoSaid : Prop := layoutNoneUptoRow.holds Try.pinned (OpenSpec.upto layoutNoneSpec)

end Rows
end Go.Proofs.Ytdafdampodbobaa
