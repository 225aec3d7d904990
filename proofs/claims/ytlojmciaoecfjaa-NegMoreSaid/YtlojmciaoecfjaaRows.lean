/-
  No cell of these rows narrows 'for every input' (looked for: loops, veiled, ifaces, maps, wideKeys, modest, calm, conditions, laid).
  DERIVED. THE GIVEN ROWS OF THIS SEAT. 6 by the template 'for every input the law returns true; each argument reads behind the call as it read before'; 0 by the template 'total and deterministic' (their statements: YtlojmciaoecfjaaTotals.lean).
  GIVEN WITH THE SEED: the statements are not yours to turn. If you find one false, say at which input.
  Laid BY PROGRAM, IN A SANDBOX (cutbox-rows.mjs): the forced cells as the released guide's own fill.sh prints them over the translation 2efe51bd9954c075… (all of the seat's roots in one cut). By AI agents, Wed Nov 11 2026. No macro, syntax, notation, axiom, sorry.
-/
import Derived.Test.YtlojmciaoecfjaaChecked
import GoSem.Claim
import GoSem.ClaimJoined
import GoSem.ClaimMapViews
import Derived.JoinedTies
import Derived.KernelRfl
namespace Go.Proofs.Ytlojmciaoecfjaa
/- THE CELL 'sum', in the pinned program and in every row, IS THE sha256 OF THE DUMP (.gsa) THAT YtlojmciaoecfjaaProg.lean LOADS. Nothing in Lean hashes anything: it is a label: what it is worth is what the hold of that sum in a sandbox is worth. -/
noncomputable def Try.pinned : Pinned := { name := "ytlojmciaoecfjaa", sum := "2efe51bd9954c0750cf191ea9a386eb5f416fd14ab0755fd1f655b375ba5cbbb", checked := Try.checked }
namespace Rows
def none {H : Type} : Left H := { results := [], args := [] }

/-- 'snubberlaw11.NegResolves': WHATEVER THE INPUT: true; the input reads as it did. -/
def negResolvesSpec : ChangeSpec := { name := "negResolves", fn := fun _ => fun
  | [d1, d2, d3, d4] => { results := [.lit (.bool true)], args := [d1, d2, d3, d4] }
  | _ => none }
def negResolvesRow : OpenClaim := { program := "ytlojmciaoecfjaa", sum := "2efe51bd9954c0750cf191ea9a386eb5f416fd14ab0755fd1f655b375ba5cbbb", func := "snubber/snubberlaw11.NegResolves", spec := "negResolves", apart := false }
def NegResolvesSaid : Prop := negResolvesRow.holds Try.pinned (OpenSpec.ofChange negResolvesSpec)

/-- ITS FALSE NEIGHBOUR: 'it returns false'. Refute it at one input. -/
def negResolvesWrong : ChangeSpec := { name := "negResolves", fn := fun _ => fun
  | [d1, d2, d3, d4] => { results := [.lit (.bool false)], args := [d1, d2, d3, d4] }
  | _ => none }
def NegResolvesWrongFalsely : Prop := negResolvesRow.holds Try.pinned (OpenSpec.ofChange negResolvesWrong)

/-- 'snubberlaw11.NegBoth': WHATEVER THE INPUT: true; the input reads as it did. -/
def negBothSpec : ChangeSpec := { name := "negBoth", fn := fun _ => fun
  | [d1, d2, d3, d4] => { results := [.lit (.bool true)], args := [d1, d2, d3, d4] }
  | _ => none }
def negBothRow : OpenClaim := { program := "ytlojmciaoecfjaa", sum := "2efe51bd9954c0750cf191ea9a386eb5f416fd14ab0755fd1f655b375ba5cbbb", func := "snubber/snubberlaw11.NegBoth", spec := "negBoth", apart := false }
def NegBothSaid : Prop := negBothRow.holds Try.pinned (OpenSpec.ofChange negBothSpec)

/-- ITS FALSE NEIGHBOUR: 'it returns false'. Refute it at one input. -/
def negBothWrong : ChangeSpec := { name := "negBoth", fn := fun _ => fun
  | [d1, d2, d3, d4] => { results := [.lit (.bool false)], args := [d1, d2, d3, d4] }
  | _ => none }
def NegBothWrongFalsely : Prop := negBothRow.holds Try.pinned (OpenSpec.ofChange negBothWrong)

/-- 'snubberlaw11.NegMore': WHATEVER THE INPUT: true; the input reads as it did. -/
def negMoreSpec : ChangeSpec := { name := "negMore", fn := fun _ => fun
  | [d1, d2, d3, d4, d5, d6] => { results := [.lit (.bool true)], args := [d1, d2, d3, d4, d5, d6] }
  | _ => none }
def negMoreRow : OpenClaim := { program := "ytlojmciaoecfjaa", sum := "2efe51bd9954c0750cf191ea9a386eb5f416fd14ab0755fd1f655b375ba5cbbb", func := "snubber/snubberlaw11.NegMore", spec := "negMore", apart := false }
def NegMoreSaid : Prop := negMoreRow.holds Try.pinned (OpenSpec.ofChange negMoreSpec)

/-- ITS FALSE NEIGHBOUR: 'it returns false'. Refute it at one input. -/
def negMoreWrong : ChangeSpec := { name := "negMore", fn := fun _ => fun
  | [d1, d2, d3, d4, d5, d6] => { results := [.lit (.bool false)], args := [d1, d2, d3, d4, d5, d6] }
  | _ => none }
def NegMoreWrongFalsely : Prop := negMoreRow.holds Try.pinned (OpenSpec.ofChange negMoreWrong)

/-- 'snubberlaw11.NegPages': WHATEVER THE INPUT: true; the input reads as it did. -/
def negPagesSpec : ChangeSpec := { name := "negPages", fn := fun _ => fun
  | [d1, d2, d3, d4, d5] => { results := [.lit (.bool true)], args := [d1, d2, d3, d4, d5] }
  | _ => none }
def negPagesRow : OpenClaim := { program := "ytlojmciaoecfjaa", sum := "2efe51bd9954c0750cf191ea9a386eb5f416fd14ab0755fd1f655b375ba5cbbb", func := "snubber/snubberlaw11.NegPages", spec := "negPages", apart := false }
def NegPagesSaid : Prop := negPagesRow.holds Try.pinned (OpenSpec.ofChange negPagesSpec)

/-- ITS FALSE NEIGHBOUR: 'it returns false'. Refute it at one input. -/
def negPagesWrong : ChangeSpec := { name := "negPages", fn := fun _ => fun
  | [d1, d2, d3, d4, d5] => { results := [.lit (.bool false)], args := [d1, d2, d3, d4, d5] }
  | _ => none }
def NegPagesWrongFalsely : Prop := negPagesRow.holds Try.pinned (OpenSpec.ofChange negPagesWrong)

/-- 'snubberlaw11.NegBest': WHATEVER THE INPUT: true; the input reads as it did. -/
def negBestSpec : ChangeSpec := { name := "negBest", fn := fun _ => fun
  | [d1, d2, d3, d4] => { results := [.lit (.bool true)], args := [d1, d2, d3, d4] }
  | _ => none }
def negBestRow : OpenClaim := { program := "ytlojmciaoecfjaa", sum := "2efe51bd9954c0750cf191ea9a386eb5f416fd14ab0755fd1f655b375ba5cbbb", func := "snubber/snubberlaw11.NegBest", spec := "negBest", apart := false }
def NegBestSaid : Prop := negBestRow.holds Try.pinned (OpenSpec.ofChange negBestSpec)

/-- ITS FALSE NEIGHBOUR: 'it returns false'. Refute it at one input. -/
def negBestWrong : ChangeSpec := { name := "negBest", fn := fun _ => fun
  | [d1, d2, d3, d4] => { results := [.lit (.bool false)], args := [d1, d2, d3, d4] }
  | _ => none }
def NegBestWrongFalsely : Prop := negBestRow.holds Try.pinned (OpenSpec.ofChange negBestWrong)

/-- 'snubberlaw11.NegBack': WHATEVER THE INPUT: true; the input reads as it did. -/
def negBackSpec : ChangeSpec := { name := "negBack", fn := fun _ => fun
  | [d1, d2, d3] => { results := [.lit (.bool true)], args := [d1, d2, d3] }
  | _ => none }
def negBackRow : OpenClaim := { program := "ytlojmciaoecfjaa", sum := "2efe51bd9954c0750cf191ea9a386eb5f416fd14ab0755fd1f655b375ba5cbbb", func := "snubber/snubberlaw11.NegBack", spec := "negBack", apart := false }
def NegBackSaid : Prop := negBackRow.holds Try.pinned (OpenSpec.ofChange negBackSpec)

/-- ITS FALSE NEIGHBOUR: 'it returns false'. Refute it at one input. -/
def negBackWrong : ChangeSpec := { name := "negBack", fn := fun _ => fun
  | [d1, d2, d3] => { results := [.lit (.bool false)], args := [d1, d2, d3] }
  | _ => none }
def NegBackWrongFalsely : Prop := negBackRow.holds Try.pinned (OpenSpec.ofChange negBackWrong)

/- THE SECOND FORM. 'bulk': how many values and letters a reading holds, each counted each time it is reached (what is shared counts as often as it is met; a slice's spare places count too). A statement '..UptoSaid' is the law's where the arguments, and the package variables that the reading takes, are together of bulk at most 1048576: NARROWER than '..Said'. Prove '..Said' where nothing that the law and all that it calls make is longer than what came in: it says more and counts as full. Else prove '..UptoSaid'. A law counts once. -/
mutual
def uptoBulk {H : Type} : DataW H → Nat
  | .lit (.string bytes) => bytes.length + 1
  | .lit _ => 1
  | .nil => 1
  | .ptr d => uptoBulk d + 1
  | .slice elems spare => uptoBulkAll elems + uptoBulkAll spare + 1
  | .agg parts => uptoBulkAll parts + 1
  | .iface _ d => uptoBulk d + 1
  | .map entries => uptoBulkEntries entries + 1
  | .held _ => 1
def uptoBulkAll {H : Type} : List (DataW H) → Nat
  | [] => 0
  | d :: r => uptoBulk d + uptoBulkAll r
def uptoBulkEntries {H : Type} : List (Lit × DataW H) → Nat
  | [] => 0
  | x :: r => uptoBulkEntry x + uptoBulkEntries r
def uptoBulkEntry {H : Type} : Lit × DataW H → Nat
  | (.string bytes, d) => bytes.length + uptoBulk d + 1
  | (_, d) => uptoBulk d + 1
 end
def uptoSmall : (H : Type) → List (DataW H) → Bool := fun _ ds => decide (uptoBulkAll ds ≤ 1048576)
def OpenSpec.upto (s : _root_.Go.ChangeSpec) : _root_.Go.OpenSpec := { _root_.Go.OpenSpec.ofChange s with cond := some uptoSmall }

/-- 'snubberlaw11.NegResolves', WHERE WHAT IT READS IS OF BULK AT MOST 1048576: true; the input reads as it did. -/
def negResolvesUptoRow : OpenClaim := { program := "ytlojmciaoecfjaa", sum := "2efe51bd9954c0750cf191ea9a386eb5f416fd14ab0755fd1f655b375ba5cbbb", func := "snubber/snubberlaw11.NegResolves", spec := "negResolves", apart := false, narrowed := true }
def NegResolvesUptoSaid : Prop := negResolvesUptoRow.holds Try.pinned (OpenSpec.upto negResolvesSpec)

/-- 'snubberlaw11.NegBoth', WHERE WHAT IT READS IS OF BULK AT MOST 1048576: true; the input reads as it did. -/
def negBothUptoRow : OpenClaim := { program := "ytlojmciaoecfjaa", sum := "2efe51bd9954c0750cf191ea9a386eb5f416fd14ab0755fd1f655b375ba5cbbb", func := "snubber/snubberlaw11.NegBoth", spec := "negBoth", apart := false, narrowed := true }
def NegBothUptoSaid : Prop := negBothUptoRow.holds Try.pinned (OpenSpec.upto negBothSpec)

/-- 'snubberlaw11.NegMore', WHERE WHAT IT READS IS OF BULK AT MOST 1048576: true; the input reads as it did. -/
def negMoreUptoRow : OpenClaim := { program := "ytlojmciaoecfjaa", sum := "2efe51bd9954c0750cf191ea9a386eb5f416fd14ab0755fd1f655b375ba5cbbb", func := "snubber/snubberlaw11.NegMore", spec := "negMore", apart := false, narrowed := true }
def NegMoreUptoSaid : Prop := negMoreUptoRow.holds Try.pinned (OpenSpec.upto negMoreSpec)

/-- 'snubberlaw11.NegPages', WHERE WHAT IT READS IS OF BULK AT MOST 1048576: true; the input reads as it did. -/
def negPagesUptoRow : OpenClaim := { program := "ytlojmciaoecfjaa", sum := "2efe51bd9954c0750cf191ea9a386eb5f416fd14ab0755fd1f655b375ba5cbbb", func := "snubber/snubberlaw11.NegPages", spec := "negPages", apart := false, narrowed := true }
def NegPagesUptoSaid : Prop := negPagesUptoRow.holds Try.pinned (OpenSpec.upto negPagesSpec)

/-- 'snubberlaw11.NegBest', WHERE WHAT IT READS IS OF BULK AT MOST 1048576: true; the input reads as it did. -/
def negBestUptoRow : OpenClaim := { program := "ytlojmciaoecfjaa", sum := "2efe51bd9954c0750cf191ea9a386eb5f416fd14ab0755fd1f655b375ba5cbbb", func := "snubber/snubberlaw11.NegBest", spec := "negBest", apart := false, narrowed := true }
def NegBestUptoSaid : Prop := negBestUptoRow.holds Try.pinned (OpenSpec.upto negBestSpec)

/-- 'snubberlaw11.NegBack', WHERE WHAT IT READS IS OF BULK AT MOST 1048576: true; the input reads as it did. -/
def negBackUptoRow : OpenClaim := { program := "ytlojmciaoecfjaa", sum := "2efe51bd9954c0750cf191ea9a386eb5f416fd14ab0755fd1f655b375ba5cbbb", func := "snubber/snubberlaw11.NegBack", spec := "negBack", apart := false, narrowed := true }
def NegBackUptoSaid : Prop := negBackUptoRow.holds Try.pinned (OpenSpec.upto negBackSpec)

end Rows
end Go.Proofs.Ytlojmciaoecfjaa
