/-
  No cell of these rows narrows 'for every input' (looked for: loops, veiled, ifaces, maps, wideKeys, modest, calm, conditions, laid).
  DERIVED. THE GIVEN ROWS OF THIS SEAT. 8 by the template 'for every input the law returns true; each argument reads behind the call as it read before'; 0 by the template 'total and deterministic' (their statements: YtggfnakhmjkoeaaTotals.lean).
  GIVEN WITH THE SEED: the statements are not yours to turn. If you find one false, say at which input.
  Laid BY PROGRAM, IN A SANDBOX (cutbox-rows.mjs): the forced cells as the released guide's own fill.sh prints them over the translation 2c600ff2d4ace00c… (all of the seat's roots in one cut). By AI agents, Wed Nov 11 2026. No macro, syntax, notation, axiom, sorry.
-/
import Derived.Test.YtggfnakhmjkoeaaChecked
import GoSem.Claim
import GoSem.ClaimJoined
import GoSem.ClaimMapViews
import Derived.JoinedTies
import Derived.KernelRfl
namespace Go.Proofs.Ytggfnakhmjkoeaa
/- THE CELL 'sum', in the pinned program and in every row, IS THE sha256 OF THE DUMP (.gsa) THAT YtggfnakhmjkoeaaProg.lean LOADS. Nothing in Lean hashes anything: it is a label: what it is worth is what the hold of that sum in a sandbox is worth. -/
noncomputable def Try.pinned : Pinned := { name := "ytggfnakhmjkoeaa", sum := "2c600ff2d4ace00c69b68a27beaaf2bcf65b2f282362d6cce9149c65389fc8d9", checked := Try.checked }
namespace Rows
def none {H : Type} : Left H := { results := [], args := [] }

/-- 'manystrandlaw06.DomainNarrows': WHATEVER THE INPUT: true; the input reads as it did. -/
def domainNarrowsSpec : ChangeSpec := { name := "domainNarrows", fn := fun _ => fun
  | [d1, d2, d3] => { results := [.lit (.bool true)], args := [d1, d2, d3] }
  | _ => none }
def domainNarrowsRow : OpenClaim := { program := "ytggfnakhmjkoeaa", sum := "2c600ff2d4ace00c69b68a27beaaf2bcf65b2f282362d6cce9149c65389fc8d9", func := "manystrand/manystrandlaw06.DomainNarrows", spec := "domainNarrows", apart := false }
def DomainNarrowsSaid : Prop := domainNarrowsRow.holds Try.pinned (OpenSpec.ofChange domainNarrowsSpec)

/-- ITS FALSE NEIGHBOUR: 'it returns false'. Refute it at one input. -/
def domainNarrowsWrong : ChangeSpec := { name := "domainNarrows", fn := fun _ => fun
  | [d1, d2, d3] => { results := [.lit (.bool false)], args := [d1, d2, d3] }
  | _ => none }
def DomainNarrowsWrongFalsely : Prop := domainNarrowsRow.holds Try.pinned (OpenSpec.ofChange domainNarrowsWrong)

/-- 'manystrandlaw06.DomainFixes': WHATEVER THE INPUT: true; the input reads as it did. -/
def domainFixesSpec : ChangeSpec := { name := "domainFixes", fn := fun _ => fun
  | [d1, d2, d3] => { results := [.lit (.bool true)], args := [d1, d2, d3] }
  | _ => none }
def domainFixesRow : OpenClaim := { program := "ytggfnakhmjkoeaa", sum := "2c600ff2d4ace00c69b68a27beaaf2bcf65b2f282362d6cce9149c65389fc8d9", func := "manystrand/manystrandlaw06.DomainFixes", spec := "domainFixes", apart := false }
def DomainFixesSaid : Prop := domainFixesRow.holds Try.pinned (OpenSpec.ofChange domainFixesSpec)

/-- ITS FALSE NEIGHBOUR: 'it returns false'. Refute it at one input. -/
def domainFixesWrong : ChangeSpec := { name := "domainFixes", fn := fun _ => fun
  | [d1, d2, d3] => { results := [.lit (.bool false)], args := [d1, d2, d3] }
  | _ => none }
def DomainFixesWrongFalsely : Prop := domainFixesRow.holds Try.pinned (OpenSpec.ofChange domainFixesWrong)

/-- 'manystrandlaw06.DomainShrinks': WHATEVER THE INPUT: true; the input reads as it did. -/
def domainShrinksSpec : ChangeSpec := { name := "domainShrinks", fn := fun _ => fun
  | [d1, d2, d3] => { results := [.lit (.bool true)], args := [d1, d2, d3] }
  | _ => none }
def domainShrinksRow : OpenClaim := { program := "ytggfnakhmjkoeaa", sum := "2c600ff2d4ace00c69b68a27beaaf2bcf65b2f282362d6cce9149c65389fc8d9", func := "manystrand/manystrandlaw06.DomainShrinks", spec := "domainShrinks", unfollowed := true, recurses := true, apart := false }
def DomainShrinksSaid : Prop := domainShrinksRow.holds Try.pinned (OpenSpec.ofChange domainShrinksSpec)

/-- ITS FALSE NEIGHBOUR: 'it returns false'. Refute it at one input. -/
def domainShrinksWrong : ChangeSpec := { name := "domainShrinks", fn := fun _ => fun
  | [d1, d2, d3] => { results := [.lit (.bool false)], args := [d1, d2, d3] }
  | _ => none }
def DomainShrinksWrongFalsely : Prop := domainShrinksRow.holds Try.pinned (OpenSpec.ofChange domainShrinksWrong)

/-- 'manystrandlaw06.DomainSets': WHATEVER THE INPUT: true; the input reads as it did. -/
def domainSetsSpec : ChangeSpec := { name := "domainSets", fn := fun _ => fun
  | [d1, d2, d3, d4] => { results := [.lit (.bool true)], args := [d1, d2, d3, d4] }
  | _ => none }
def domainSetsRow : OpenClaim := { program := "ytggfnakhmjkoeaa", sum := "2c600ff2d4ace00c69b68a27beaaf2bcf65b2f282362d6cce9149c65389fc8d9", func := "manystrand/manystrandlaw06.DomainSets", spec := "domainSets", unfollowed := true, recurses := true, apart := false }
def DomainSetsSaid : Prop := domainSetsRow.holds Try.pinned (OpenSpec.ofChange domainSetsSpec)

/-- ITS FALSE NEIGHBOUR: 'it returns false'. Refute it at one input. -/
def domainSetsWrong : ChangeSpec := { name := "domainSets", fn := fun _ => fun
  | [d1, d2, d3, d4] => { results := [.lit (.bool false)], args := [d1, d2, d3, d4] }
  | _ => none }
def DomainSetsWrongFalsely : Prop := domainSetsRow.holds Try.pinned (OpenSpec.ofChange domainSetsWrong)

/-- 'manystrandlaw06.DomainTexts': WHATEVER THE INPUT: true; the input reads as it did. -/
def domainTextsSpec : ChangeSpec := { name := "domainTexts", fn := fun _ => fun
  | [d1, d2] => { results := [.lit (.bool true)], args := [d1, d2] }
  | _ => none }
def domainTextsRow : OpenClaim := { program := "ytggfnakhmjkoeaa", sum := "2c600ff2d4ace00c69b68a27beaaf2bcf65b2f282362d6cce9149c65389fc8d9", func := "manystrand/manystrandlaw06.DomainTexts", spec := "domainTexts", recurses := true, apart := false }
def DomainTextsSaid : Prop := domainTextsRow.holds Try.pinned (OpenSpec.ofChange domainTextsSpec)

/-- ITS FALSE NEIGHBOUR: 'it returns false'. Refute it at one input. -/
def domainTextsWrong : ChangeSpec := { name := "domainTexts", fn := fun _ => fun
  | [d1, d2] => { results := [.lit (.bool false)], args := [d1, d2] }
  | _ => none }
def DomainTextsWrongFalsely : Prop := domainTextsRow.holds Try.pinned (OpenSpec.ofChange domainTextsWrong)

/-- 'manystrandlaw06.DomainHolds': WHATEVER THE INPUT: true; the input reads as it did. -/
def domainHoldsSpec : ChangeSpec := { name := "domainHolds", fn := fun _ => fun
  | [d1, d2] => { results := [.lit (.bool true)], args := [d1, d2] }
  | _ => none }
def domainHoldsRow : OpenClaim := { program := "ytggfnakhmjkoeaa", sum := "2c600ff2d4ace00c69b68a27beaaf2bcf65b2f282362d6cce9149c65389fc8d9", func := "manystrand/manystrandlaw06.DomainHolds", spec := "domainHolds", inPlace := ["math/bits.Add64"], apart := false }
def DomainHoldsSaid : Prop := domainHoldsRow.holds Try.pinned (OpenSpec.ofChange domainHoldsSpec)

/-- ITS FALSE NEIGHBOUR: 'it returns false'. Refute it at one input. -/
def domainHoldsWrong : ChangeSpec := { name := "domainHolds", fn := fun _ => fun
  | [d1, d2] => { results := [.lit (.bool false)], args := [d1, d2] }
  | _ => none }
def DomainHoldsWrongFalsely : Prop := domainHoldsRow.holds Try.pinned (OpenSpec.ofChange domainHoldsWrong)

/-- 'manystrandlaw06.DomainKeeps': WHATEVER THE INPUT: true; the input reads as it did. -/
def domainKeepsSpec : ChangeSpec := { name := "domainKeeps", fn := fun _ => fun
  | [d1, d2, d3] => { results := [.lit (.bool true)], args := [d1, d2, d3] }
  | _ => none }
def domainKeepsRow : OpenClaim := { program := "ytggfnakhmjkoeaa", sum := "2c600ff2d4ace00c69b68a27beaaf2bcf65b2f282362d6cce9149c65389fc8d9", func := "manystrand/manystrandlaw06.DomainKeeps", spec := "domainKeeps", inPlace := ["math/bits.Add64"], apart := false }
def DomainKeepsSaid : Prop := domainKeepsRow.holds Try.pinned (OpenSpec.ofChange domainKeepsSpec)

/-- ITS FALSE NEIGHBOUR: 'it returns false'. Refute it at one input. -/
def domainKeepsWrong : ChangeSpec := { name := "domainKeeps", fn := fun _ => fun
  | [d1, d2, d3] => { results := [.lit (.bool false)], args := [d1, d2, d3] }
  | _ => none }
def DomainKeepsWrongFalsely : Prop := domainKeepsRow.holds Try.pinned (OpenSpec.ofChange domainKeepsWrong)

/-- 'manystrandlaw06.DomainEntails': WHATEVER THE INPUT: true; the input reads as it did. -/
def domainEntailsSpec : ChangeSpec := { name := "domainEntails", fn := fun _ => fun
  | [d1, d2] => { results := [.lit (.bool true)], args := [d1, d2] }
  | _ => none }
def domainEntailsRow : OpenClaim := { program := "ytggfnakhmjkoeaa", sum := "2c600ff2d4ace00c69b68a27beaaf2bcf65b2f282362d6cce9149c65389fc8d9", func := "manystrand/manystrandlaw06.DomainEntails", spec := "domainEntails", inPlace := ["math/bits.Add64"], recurses := true, apart := false }
def DomainEntailsSaid : Prop := domainEntailsRow.holds Try.pinned (OpenSpec.ofChange domainEntailsSpec)

/-- ITS FALSE NEIGHBOUR: 'it returns false'. Refute it at one input. -/
def domainEntailsWrong : ChangeSpec := { name := "domainEntails", fn := fun _ => fun
  | [d1, d2] => { results := [.lit (.bool false)], args := [d1, d2] }
  | _ => none }
def DomainEntailsWrongFalsely : Prop := domainEntailsRow.holds Try.pinned (OpenSpec.ofChange domainEntailsWrong)

/- THE SECOND FORM. 'bulk': how many values and letters a reading holds, each counted each time it is reached (what is shared counts as often as it is met; a slice's spare places count too). A statement '..UptoSaid' is the law's where the arguments, and the package variables that the reading takes, are together of bulk at most 1048576: NARROWER than '..Said'. Prove '..Said' where nothing that the law and all that it calls make is longer than what came in: it says more and counts as full. Else prove '..UptoSaid'. A law counts once. -/
mutual
def uptoBulk {H : Type} : DataW H → Nat
  | .lit (.string bytes) => bytes.length + 1
  | .lit _ => 1
  | .nil => 1
  | .ptr d => uptoBulk d + 1
  | .slice elems spare => uptoBulkAll elems + uptoBulkAll spare + 1
  | .agg parts => uptoBulkAll parts + 1
  | .iface _ d => uptoBulk d + 1
  | .map entries => uptoBulkEntries entries + 1
  | .held _ => 1
def uptoBulkAll {H : Type} : List (DataW H) → Nat
  | [] => 0
  | d :: r => uptoBulk d + uptoBulkAll r
def uptoBulkEntries {H : Type} : List (Lit × DataW H) → Nat
  | [] => 0
  | x :: r => uptoBulkEntry x + uptoBulkEntries r
def uptoBulkEntry {H : Type} : Lit × DataW H → Nat
  | (.string bytes, d) => bytes.length + uptoBulk d + 1
  | (_, d) => uptoBulk d + 1
 end
def uptoSmall : (H : Type) → List (DataW H) → Bool := fun _ ds => decide (uptoBulkAll ds ≤ 1048576)
def OpenSpec.upto (s : _root_.Go.ChangeSpec) : _root_.Go.OpenSpec := { _root_.Go.OpenSpec.ofChange s with cond := some uptoSmall }

/-- 'manystrandlaw06.DomainNarrows', WHERE WHAT IT READS IS OF BULK AT MOST 1048576: true; the input reads as it did. -/
def domainNarrowsUptoRow : OpenClaim := { program := "ytggfnakhmjkoeaa", sum := "2c600ff2d4ace00c69b68a27beaaf2bcf65b2f282362d6cce9149c65389fc8d9", func := "manystrand/manystrandlaw06.DomainNarrows", spec := "domainNarrows", apart := false, narrowed := true }
def DomainNarrowsUptoSaid : Prop := domainNarrowsUptoRow.holds Try.pinned (OpenSpec.upto domainNarrowsSpec)

/-- 'manystrandlaw06.DomainFixes', WHERE WHAT IT READS IS OF BULK AT MOST 1048576: true; the input reads as it did. -/
def domainFixesUptoRow : OpenClaim := { program := "ytggfnakhmjkoeaa", sum := "2c600ff2d4ace00c69b68a27beaaf2bcf65b2f282362d6cce9149c65389fc8d9", func := "manystrand/manystrandlaw06.DomainFixes", spec := "domainFixes", apart := false, narrowed := true }
def DomainFixesUptoSaid : Prop := domainFixesUptoRow.holds Try.pinned (OpenSpec.upto domainFixesSpec)

/-- 'manystrandlaw06.DomainShrinks', WHERE WHAT IT READS IS OF BULK AT MOST 1048576: true; the input reads as it did. -/
def domainShrinksUptoRow : OpenClaim := { program := "ytggfnakhmjkoeaa", sum := "2c600ff2d4ace00c69b68a27beaaf2bcf65b2f282362d6cce9149c65389fc8d9", func := "manystrand/manystrandlaw06.DomainShrinks", spec := "domainShrinks", unfollowed := true, recurses := true, apart := false, narrowed := true }
def DomainShrinksUptoSaid : Prop := domainShrinksUptoRow.holds Try.pinned (OpenSpec.upto domainShrinksSpec)

/-- 'manystrandlaw06.DomainSets', WHERE WHAT IT READS IS OF BULK AT MOST 1048576: true; the input reads as it did. -/
def domainSetsUptoRow : OpenClaim := { program := "ytggfnakhmjkoeaa", sum := "2c600ff2d4ace00c69b68a27beaaf2bcf65b2f282362d6cce9149c65389fc8d9", func := "manystrand/manystrandlaw06.DomainSets", spec := "domainSets", unfollowed := true, recurses := true, apart := false, narrowed := true }
def DomainSetsUptoSaid : Prop := domainSetsUptoRow.holds Try.pinned (OpenSpec.upto domainSetsSpec)

/-- 'manystrandlaw06.DomainTexts', WHERE WHAT IT READS IS OF BULK AT MOST 1048576: true; the input reads as it did. -/
def domainTextsUptoRow : OpenClaim := { program := "ytggfnakhmjkoeaa", sum := "2c600ff2d4ace00c69b68a27beaaf2bcf65b2f282362d6cce9149c65389fc8d9", func := "manystrand/manystrandlaw06.DomainTexts", spec := "domainTexts", recurses := true, apart := false, narrowed := true }
def DomainTextsUptoSaid : Prop := domainTextsUptoRow.holds Try.pinned (OpenSpec.upto domainTextsSpec)

/-- 'manystrandlaw06.DomainHolds', WHERE WHAT IT READS IS OF BULK AT MOST 1048576: true; the input reads as it did. -/
def domainHoldsUptoRow : OpenClaim := { program := "ytggfnakhmjkoeaa", sum := "2c600ff2d4ace00c69b68a27beaaf2bcf65b2f282362d6cce9149c65389fc8d9", func := "manystrand/manystrandlaw06.DomainHolds", spec := "domainHolds", inPlace := ["math/bits.Add64"], apart := false, narrowed := true }
def DomainHoldsUptoSaid : Prop := domainHoldsUptoRow.holds Try.pinned (OpenSpec.upto domainHoldsSpec)

/-- 'manystrandlaw06.DomainKeeps', WHERE WHAT IT READS IS OF BULK AT MOST 1048576: true; the input reads as it did. -/
def domainKeepsUptoRow : OpenClaim := { program := "ytggfnakhmjkoeaa", sum := "2c600ff2d4ace00c69b68a27beaaf2bcf65b2f282362d6cce9149c65389fc8d9", func := "manystrand/manystrandlaw06.DomainKeeps", spec := "domainKeeps", inPlace := ["math/bits.Add64"], apart := false, narrowed := true }
def DomainKeepsUptoSaid : Prop := domainKeepsUptoRow.holds Try.pinned (OpenSpec.upto domainKeepsSpec)

/-- 'manystrandlaw06.DomainEntails', WHERE WHAT IT READS IS OF BULK AT MOST 1048576: true; the input reads as it did. -/
def domainEntailsUptoRow : OpenClaim := { program := "ytggfnakhmjkoeaa", sum := "2c600ff2d4ace00c69b68a27beaaf2bcf65b2f282362d6cce9149c65389fc8d9", func := "manystrand/manystrandlaw06.DomainEntails", spec := "domainEntails", inPlace := ["math/bits.Add64"], recurses := true, apart := false, narrowed := true }
def DomainEntailsUptoSaid : Prop := domainEntailsUptoRow.holds Try.pinned (OpenSpec.upto domainEntailsSpec)

end Rows
end Go.Proofs.Ytggfnakhmjkoeaa
