/-
  No cell of these rows narrows 'for every input' (looked for: loops, veiled, ifaces, maps, wideKeys, modest, calm, conditions, laid).
  DERIVED. THE GIVEN ROWS OF THIS SEAT. 10 by the template 'for every input the law returns true; each argument reads behind the call as it read before'; 0 by the template 'total and deterministic' (their statements: YtedijongecdhfaaGreatTotals.lean).
  GIVEN WITH THE SEED: the statements are not yours to turn. If you find one false, say at which input.
  Laid BY PROGRAM, IN A SANDBOX (cutbox-rows.mjs): the forced cells as the released guide's own fill.sh prints them over the translation c8132ca7f292c87c… (all of the seat's roots in one cut). By AI agents, Wed Nov 11 2026. No macro, syntax, notation, axiom, sorry.
-/
import Derived.Test.YtedijongecdhfaaGreatChecked
import GoSem.Claim
import GoSem.ClaimJoined
import GoSem.ClaimMapViews
import Derived.JoinedTies
import Derived.KernelRfl
namespace Go.Proofs.YtedijongecdhfaaGreat
/- THE CELL 'sum', in the pinned program and in every row, IS THE sha256 OF THE DUMP (.gsa) THAT YtedijongecdhfaaGreatProg.lean LOADS. Nothing in Lean hashes anything: it is a label: what it is worth is what the hold of that sum in a sandbox is worth. -/
noncomputable def Tryz.pinned : Pinned := { name := "ytedijongecdhfaagreat", sum := "c8132ca7f292c87c725f3f4bc0038c5a1ecb3ca3e6bf03bbf58f46a1717161a5", checked := Tryz.checked }
namespace Rows
def none {H : Type} : Left H := { results := [], args := [] }

/-- 'redpencillaw50.StylePlays': WHATEVER THE INPUT: true; the input reads as it did. -/
def stylePlaysSpec : ChangeSpec := { name := "stylePlays", fn := fun _ => fun
  | [d] => { results := [.lit (.bool true)], args := [d] }
  | _ => none }
def stylePlaysRow : OpenClaim := { program := "ytedijongecdhfaagreat", sum := "c8132ca7f292c87c725f3f4bc0038c5a1ecb3ca3e6bf03bbf58f46a1717161a5", func := "redpencil/redpencillaw50.StylePlays", spec := "stylePlays", inPlace := ["slices.overlaps[redpencil/omap.entry[redpencil/api.Dot, []redpencil/api.Node]]", "maps.clone"], unfollowed := true, recurses := true, plainKeys := false, apart := false }
def StylePlaysSaid : Prop := stylePlaysRow.holds Tryz.pinned (OpenSpec.ofChange stylePlaysSpec)

/-- ITS FALSE NEIGHBOUR: 'it returns false'. Refute it at one input. -/
def stylePlaysWrong : ChangeSpec := { name := "stylePlays", fn := fun _ => fun
  | [d] => { results := [.lit (.bool false)], args := [d] }
  | _ => none }
def StylePlaysWrongFalsely : Prop := stylePlaysRow.holds Tryz.pinned (OpenSpec.ofChange stylePlaysWrong)

/-- 'redpencillaw50.StyleNil': WHATEVER THE INPUT: true; the input reads as it did. -/
def styleNilSpec : ChangeSpec := { name := "styleNil", fn := fun _ => fun
  | [d] => { results := [.lit (.bool true)], args := [d] }
  | _ => none }
def styleNilRow : OpenClaim := { program := "ytedijongecdhfaagreat", sum := "c8132ca7f292c87c725f3f4bc0038c5a1ecb3ca3e6bf03bbf58f46a1717161a5", func := "redpencil/redpencillaw50.StyleNil", spec := "styleNil", inPlace := ["slices.overlaps[redpencil/omap.entry[redpencil/api.Dot, []redpencil/api.Node]]", "maps.clone"], unfollowed := true, recurses := true, plainKeys := false, apart := false }
def StyleNilSaid : Prop := styleNilRow.holds Tryz.pinned (OpenSpec.ofChange styleNilSpec)

/-- ITS FALSE NEIGHBOUR: 'it returns false'. Refute it at one input. -/
def styleNilWrong : ChangeSpec := { name := "styleNil", fn := fun _ => fun
  | [d] => { results := [.lit (.bool false)], args := [d] }
  | _ => none }
def StyleNilWrongFalsely : Prop := styleNilRow.holds Tryz.pinned (OpenSpec.ofChange styleNilWrong)

/-- 'redpencillaw51.WeightHolds': WHATEVER THE INPUT: true; the input reads as it did. -/
def weightHoldsSpec : ChangeSpec := { name := "weightHolds", fn := fun _ => fun
  | [d1, d2, d3] => { results := [.lit (.bool true)], args := [d1, d2, d3] }
  | _ => none }
def weightHoldsRow : OpenClaim := { program := "ytedijongecdhfaagreat", sum := "c8132ca7f292c87c725f3f4bc0038c5a1ecb3ca3e6bf03bbf58f46a1717161a5", func := "redpencil/redpencillaw51.WeightHolds", spec := "weightHolds", inPlace := ["slices.overlaps[redpencil/omap.entry[redpencil/api.Dot, []redpencil/api.Node]]"], unfollowed := true, recurses := true, plainKeys := false, apart := false }
def WeightHoldsSaid : Prop := weightHoldsRow.holds Tryz.pinned (OpenSpec.ofChange weightHoldsSpec)

/-- ITS FALSE NEIGHBOUR: 'it returns false'. Refute it at one input. -/
def weightHoldsWrong : ChangeSpec := { name := "weightHolds", fn := fun _ => fun
  | [d1, d2, d3] => { results := [.lit (.bool false)], args := [d1, d2, d3] }
  | _ => none }
def WeightHoldsWrongFalsely : Prop := weightHoldsRow.holds Tryz.pinned (OpenSpec.ofChange weightHoldsWrong)

/-- 'redpencillaw50.StyleHolds': WHATEVER THE INPUT: true; the input reads as it did. -/
def styleHoldsSpec : ChangeSpec := { name := "styleHolds", fn := fun _ => fun
  | [d1, d2, d3, d4] => { results := [.lit (.bool true)], args := [d1, d2, d3, d4] }
  | _ => none }
def styleHoldsRow : OpenClaim := { program := "ytedijongecdhfaagreat", sum := "c8132ca7f292c87c725f3f4bc0038c5a1ecb3ca3e6bf03bbf58f46a1717161a5", func := "redpencil/redpencillaw50.StyleHolds", spec := "styleHolds", inPlace := ["slices.overlaps[redpencil/omap.entry[redpencil/api.Dot, []redpencil/api.Node]]", "maps.clone"], unfollowed := true, recurses := true, plainKeys := false, apart := false }
def StyleHoldsSaid : Prop := styleHoldsRow.holds Tryz.pinned (OpenSpec.ofChange styleHoldsSpec)

/-- ITS FALSE NEIGHBOUR: 'it returns false'. Refute it at one input. -/
def styleHoldsWrong : ChangeSpec := { name := "styleHolds", fn := fun _ => fun
  | [d1, d2, d3, d4] => { results := [.lit (.bool false)], args := [d1, d2, d3, d4] }
  | _ => none }
def StyleHoldsWrongFalsely : Prop := styleHoldsRow.holds Tryz.pinned (OpenSpec.ofChange styleHoldsWrong)

/-- 'redpencillaw48.PastPlays': WHATEVER THE INPUT: true; the input reads as it did. -/
def pastPlaysSpec : ChangeSpec := { name := "pastPlays", fn := fun _ => fun
  | [d1, d2] => { results := [.lit (.bool true)], args := [d1, d2] }
  | _ => none }
def pastPlaysRow : OpenClaim := { program := "ytedijongecdhfaagreat", sum := "c8132ca7f292c87c725f3f4bc0038c5a1ecb3ca3e6bf03bbf58f46a1717161a5", func := "redpencil/redpencillaw48.PastPlays", spec := "pastPlays", inPlace := ["slices.overlaps[redpencil/omap.entry[redpencil/api.Dot, []redpencil/api.Node]]"], unfollowed := true, recurses := true, plainKeys := false, apart := false }
def PastPlaysSaid : Prop := pastPlaysRow.holds Tryz.pinned (OpenSpec.ofChange pastPlaysSpec)

/-- ITS FALSE NEIGHBOUR: 'it returns false'. Refute it at one input. -/
def pastPlaysWrong : ChangeSpec := { name := "pastPlays", fn := fun _ => fun
  | [d1, d2] => { results := [.lit (.bool false)], args := [d1, d2] }
  | _ => none }
def PastPlaysWrongFalsely : Prop := pastPlaysRow.holds Tryz.pinned (OpenSpec.ofChange pastPlaysWrong)

/-- 'redpencillaw48.PastWhen': WHATEVER THE INPUT: true; the input reads as it did. -/
def pastWhenSpec : ChangeSpec := { name := "pastWhen", fn := fun _ => fun
  | [d1, d2] => { results := [.lit (.bool true)], args := [d1, d2] }
  | _ => none }
def pastWhenRow : OpenClaim := { program := "ytedijongecdhfaagreat", sum := "c8132ca7f292c87c725f3f4bc0038c5a1ecb3ca3e6bf03bbf58f46a1717161a5", func := "redpencil/redpencillaw48.PastWhen", spec := "pastWhen", inPlace := ["slices.overlaps[redpencil/omap.entry[redpencil/api.Dot, []redpencil/api.Node]]"], unfollowed := true, recurses := true, plainKeys := false, apart := false }
def PastWhenSaid : Prop := pastWhenRow.holds Tryz.pinned (OpenSpec.ofChange pastWhenSpec)

/-- ITS FALSE NEIGHBOUR: 'it returns false'. Refute it at one input. -/
def pastWhenWrong : ChangeSpec := { name := "pastWhen", fn := fun _ => fun
  | [d1, d2] => { results := [.lit (.bool false)], args := [d1, d2] }
  | _ => none }
def PastWhenWrongFalsely : Prop := pastWhenRow.holds Tryz.pinned (OpenSpec.ofChange pastWhenWrong)

/-- 'redpencillaw48.PastFulls': WHATEVER THE INPUT: true; the input reads as it did. -/
def pastFullsSpec : ChangeSpec := { name := "pastFulls", fn := fun _ => fun
  | [d] => { results := [.lit (.bool true)], args := [d] }
  | _ => none }
def pastFullsRow : OpenClaim := { program := "ytedijongecdhfaagreat", sum := "c8132ca7f292c87c725f3f4bc0038c5a1ecb3ca3e6bf03bbf58f46a1717161a5", func := "redpencil/redpencillaw48.PastFulls", spec := "pastFulls", inPlace := ["slices.overlaps[redpencil/omap.entry[redpencil/api.Dot, []redpencil/api.Node]]"], unfollowed := true, recurses := true, plainKeys := false, apart := false }
def PastFullsSaid : Prop := pastFullsRow.holds Tryz.pinned (OpenSpec.ofChange pastFullsSpec)

/-- ITS FALSE NEIGHBOUR: 'it returns false'. Refute it at one input. -/
def pastFullsWrong : ChangeSpec := { name := "pastFulls", fn := fun _ => fun
  | [d] => { results := [.lit (.bool false)], args := [d] }
  | _ => none }
def PastFullsWrongFalsely : Prop := pastFullsRow.holds Tryz.pinned (OpenSpec.ofChange pastFullsWrong)

/-- 'redpencillaw48.PastSince': WHATEVER THE INPUT: true; the input reads as it did. -/
def pastSinceSpec : ChangeSpec := { name := "pastSince", fn := fun _ => fun
  | [d1, d2, d3] => { results := [.lit (.bool true)], args := [d1, d2, d3] }
  | _ => none }
def pastSinceRow : OpenClaim := { program := "ytedijongecdhfaagreat", sum := "c8132ca7f292c87c725f3f4bc0038c5a1ecb3ca3e6bf03bbf58f46a1717161a5", func := "redpencil/redpencillaw48.PastSince", spec := "pastSince", inPlace := ["slices.overlaps[redpencil/omap.entry[redpencil/api.Dot, []redpencil/api.Node]]"], unfollowed := true, recurses := true, plainKeys := false, apart := false }
def PastSinceSaid : Prop := pastSinceRow.holds Tryz.pinned (OpenSpec.ofChange pastSinceSpec)

/-- ITS FALSE NEIGHBOUR: 'it returns false'. Refute it at one input. -/
def pastSinceWrong : ChangeSpec := { name := "pastSince", fn := fun _ => fun
  | [d1, d2, d3] => { results := [.lit (.bool false)], args := [d1, d2, d3] }
  | _ => none }
def PastSinceWrongFalsely : Prop := pastSinceRow.holds Tryz.pinned (OpenSpec.ofChange pastSinceWrong)

/-- 'redpencillaw48.PastNil': WHATEVER THE INPUT: true; the input reads as it did. -/
def pastNilSpec : ChangeSpec := { name := "pastNil", fn := fun _ => fun
  | [d1, d2, d3] => { results := [.lit (.bool true)], args := [d1, d2, d3] }
  | _ => none }
def pastNilRow : OpenClaim := { program := "ytedijongecdhfaagreat", sum := "c8132ca7f292c87c725f3f4bc0038c5a1ecb3ca3e6bf03bbf58f46a1717161a5", func := "redpencil/redpencillaw48.PastNil", spec := "pastNil", inPlace := ["slices.overlaps[redpencil/omap.entry[redpencil/api.Dot, []redpencil/api.Node]]"], unfollowed := true, recurses := true, plainKeys := false, apart := false }
def PastNilSaid : Prop := pastNilRow.holds Tryz.pinned (OpenSpec.ofChange pastNilSpec)

/-- ITS FALSE NEIGHBOUR: 'it returns false'. Refute it at one input. -/
def pastNilWrong : ChangeSpec := { name := "pastNil", fn := fun _ => fun
  | [d1, d2, d3] => { results := [.lit (.bool false)], args := [d1, d2, d3] }
  | _ => none }
def PastNilWrongFalsely : Prop := pastNilRow.holds Tryz.pinned (OpenSpec.ofChange pastNilWrong)

/-- 'redpencillaw48.PastHolds': WHATEVER THE INPUT: true; the input reads as it did. -/
def pastHoldsSpec : ChangeSpec := { name := "pastHolds", fn := fun _ => fun
  | [d1, d2, d3] => { results := [.lit (.bool true)], args := [d1, d2, d3] }
  | _ => none }
def pastHoldsRow : OpenClaim := { program := "ytedijongecdhfaagreat", sum := "c8132ca7f292c87c725f3f4bc0038c5a1ecb3ca3e6bf03bbf58f46a1717161a5", func := "redpencil/redpencillaw48.PastHolds", spec := "pastHolds", inPlace := ["slices.overlaps[redpencil/omap.entry[redpencil/api.Dot, []redpencil/api.Node]]"], unfollowed := true, recurses := true, plainKeys := false, apart := false }
def PastHoldsSaid : Prop := pastHoldsRow.holds Tryz.pinned (OpenSpec.ofChange pastHoldsSpec)

/-- ITS FALSE NEIGHBOUR: 'it returns false'. Refute it at one input. -/
def pastHoldsWrong : ChangeSpec := { name := "pastHolds", fn := fun _ => fun
  | [d1, d2, d3] => { results := [.lit (.bool false)], args := [d1, d2, d3] }
  | _ => none }
def PastHoldsWrongFalsely : Prop := pastHoldsRow.holds Tryz.pinned (OpenSpec.ofChange pastHoldsWrong)

/- THE SECOND FORM. 'bulk': how many values and letters a reading holds, each counted each time it is reached (what is shared counts as often as it is met; a slice's spare places count too). A statement '..UptoSaid' is the law's where the arguments, and the package variables that the reading takes, are together of bulk at most 1048576: NARROWER than '..Said'. Prove '..Said' where nothing that the law and all that it calls make is longer than what came in: it says more and counts as full. Else prove '..UptoSaid'. A law counts once. -/
mutual
def uptoBulk {H : Type} : DataW H → Nat
  | .lit (.string bytes) => bytes.length + 1
  | .lit _ => 1
  | .nil => 1
  | .ptr d => uptoBulk d + 1
  | .slice elems spare => uptoBulkAll elems + uptoBulkAll spare + 1
  | .agg parts => uptoBulkAll parts + 1
  | .iface _ d => uptoBulk d + 1
  | .map entries => uptoBulkEntries entries + 1
  | .held _ => 1
def uptoBulkAll {H : Type} : List (DataW H) → Nat
  | [] => 0
  | d :: r => uptoBulk d + uptoBulkAll r
def uptoBulkEntries {H : Type} : List (Lit × DataW H) → Nat
  | [] => 0
  | x :: r => uptoBulkEntry x + uptoBulkEntries r
def uptoBulkEntry {H : Type} : Lit × DataW H → Nat
  | (.string bytes, d) => bytes.length + uptoBulk d + 1
  | (_, d) => uptoBulk d + 1
 end
def uptoSmall : (H : Type) → List (DataW H) → Bool := fun _ ds => decide (uptoBulkAll ds ≤ 1048576)
def OpenSpec.upto (s : _root_.Go.ChangeSpec) : _root_.Go.OpenSpec := { _root_.Go.OpenSpec.ofChange s with cond := some uptoSmall }

/-- 'redpencillaw50.StylePlays', WHERE WHAT IT READS IS OF BULK AT MOST 1048576: true; the input reads as it did. -/
def stylePlaysUptoRow : OpenClaim := { program := "ytedijongecdhfaagreat", sum := "c8132ca7f292c87c725f3f4bc0038c5a1ecb3ca3e6bf03bbf58f46a1717161a5", func := "redpencil/redpencillaw50.StylePlays", spec := "stylePlays", inPlace := ["slices.overlaps[redpencil/omap.entry[redpencil/api.Dot, []redpencil/api.Node]]", "maps.clone"], unfollowed := true, recurses := true, plainKeys := false, apart := false, narrowed := true }
def StylePlaysUptoSaid : Prop := stylePlaysUptoRow.holds Tryz.pinned (OpenSpec.upto stylePlaysSpec)

/-- 'redpencillaw50.StyleNil', WHERE WHAT IT READS IS OF BULK AT MOST 1048576: true; the input reads as it did. -/
def styleNilUptoRow : OpenClaim := { program := "ytedijongecdhfaagreat", sum := "c8132ca7f292c87c725f3f4bc0038c5a1ecb3ca3e6bf03bbf58f46a1717161a5", func := "redpencil/redpencillaw50.StyleNil", spec := "styleNil", inPlace := ["slices.overlaps[redpencil/omap.entry[redpencil/api.Dot, []redpencil/api.Node]]", "maps.clone"], unfollowed := true, recurses := true, plainKeys := false, apart := false, narrowed := true }
def StyleNilUptoSaid : Prop := styleNilUptoRow.holds Tryz.pinned (OpenSpec.upto styleNilSpec)

/-- 'redpencillaw51.WeightHolds', WHERE WHAT IT READS IS OF BULK AT MOST 1048576: true; the input reads as it did. -/
def weightHoldsUptoRow : OpenClaim := { program := "ytedijongecdhfaagreat", sum := "c8132ca7f292c87c725f3f4bc0038c5a1ecb3ca3e6bf03bbf58f46a1717161a5", func := "redpencil/redpencillaw51.WeightHolds", spec := "weightHolds", inPlace := ["slices.overlaps[redpencil/omap.entry[redpencil/api.Dot, []redpencil/api.Node]]"], unfollowed := true, recurses := true, plainKeys := false, apart := false, narrowed := true }
def WeightHoldsUptoSaid : Prop := weightHoldsUptoRow.holds Tryz.pinned (OpenSpec.upto weightHoldsSpec)

/-- 'redpencillaw50.StyleHolds', WHERE WHAT IT READS IS OF BULK AT MOST 1048576: true; the input reads as it did. -/
def styleHoldsUptoRow : OpenClaim := { program := "ytedijongecdhfaagreat", sum := "c8132ca7f292c87c725f3f4bc0038c5a1ecb3ca3e6bf03bbf58f46a1717161a5", func := "redpencil/redpencillaw50.StyleHolds", spec := "styleHolds", inPlace := ["slices.overlaps[redpencil/omap.entry[redpencil/api.Dot, []redpencil/api.Node]]", "maps.clone"], unfollowed := true, recurses := true, plainKeys := false, apart := false, narrowed := true }
def StyleHoldsUptoSaid : Prop := styleHoldsUptoRow.holds Tryz.pinned (OpenSpec.upto styleHoldsSpec)

/-- 'redpencillaw48.PastPlays', WHERE WHAT IT READS IS OF BULK AT MOST 1048576: true; the input reads as it did. -/
def pastPlaysUptoRow : OpenClaim := { program := "ytedijongecdhfaagreat", sum := "c8132ca7f292c87c725f3f4bc0038c5a1ecb3ca3e6bf03bbf58f46a1717161a5", func := "redpencil/redpencillaw48.PastPlays", spec := "pastPlays", inPlace := ["slices.overlaps[redpencil/omap.entry[redpencil/api.Dot, []redpencil/api.Node]]"], unfollowed := true, recurses := true, plainKeys := false, apart := false, narrowed := true }
def PastPlaysUptoSaid : Prop := pastPlaysUptoRow.holds Tryz.pinned (OpenSpec.upto pastPlaysSpec)

/-- 'redpencillaw48.PastWhen', WHERE WHAT IT READS IS OF BULK AT MOST 1048576: true; the input reads as it did. -/
def pastWhenUptoRow : OpenClaim := { program := "ytedijongecdhfaagreat", sum := "c8132ca7f292c87c725f3f4bc0038c5a1ecb3ca3e6bf03bbf58f46a1717161a5", func := "redpencil/redpencillaw48.PastWhen", spec := "pastWhen", inPlace := ["slices.overlaps[redpencil/omap.entry[redpencil/api.Dot, []redpencil/api.Node]]"], unfollowed := true, recurses := true, plainKeys := false, apart := false, narrowed := true }
def PastWhenUptoSaid : Prop := pastWhenUptoRow.holds Tryz.pinned (OpenSpec.upto pastWhenSpec)

/-- 'redpencillaw48.PastFulls', WHERE WHAT IT READS IS OF BULK AT MOST 1048576: true; the input reads as it did. -/
def pastFullsUptoRow : OpenClaim := { program := "ytedijongecdhfaagreat", sum := "c8132ca7f292c87c725f3f4bc0038c5a1ecb3ca3e6bf03bbf58f46a1717161a5", func := "redpencil/redpencillaw48.PastFulls", spec := "pastFulls", inPlace := ["slices.overlaps[redpencil/omap.entry[redpencil/api.Dot, []redpencil/api.Node]]"], unfollowed := true, recurses := true, plainKeys := false, apart := false, narrowed := true }
def PastFullsUptoSaid : Prop := pastFullsUptoRow.holds Tryz.pinned (OpenSpec.upto pastFullsSpec)

/-- 'redpencillaw48.PastSince', WHERE WHAT IT READS IS OF BULK AT MOST 1048576: true; the input reads as it did. -/
def pastSinceUptoRow : OpenClaim := { program := "ytedijongecdhfaagreat", sum := "c8132ca7f292c87c725f3f4bc0038c5a1ecb3ca3e6bf03bbf58f46a1717161a5", func := "redpencil/redpencillaw48.PastSince", spec := "pastSince", inPlace := ["slices.overlaps[redpencil/omap.entry[redpencil/api.Dot, []redpencil/api.Node]]"], unfollowed := true, recurses := true, plainKeys := false, apart := false, narrowed := true }
def PastSinceUptoSaid : Prop := pastSinceUptoRow.holds Tryz.pinned (OpenSpec.upto pastSinceSpec)

/-- 'redpencillaw48.PastNil', WHERE WHAT IT READS IS OF BULK AT MOST 1048576: true; the input reads as it did. -/
def pastNilUptoRow : OpenClaim := { program := "ytedijongecdhfaagreat", sum := "c8132ca7f292c87c725f3f4bc0038c5a1ecb3ca3e6bf03bbf58f46a1717161a5", func := "redpencil/redpencillaw48.PastNil", spec := "pastNil", inPlace := ["slices.overlaps[redpencil/omap.entry[redpencil/api.Dot, []redpencil/api.Node]]"], unfollowed := true, recurses := true, plainKeys := false, apart := false, narrowed := true }
def PastNilUptoSaid : Prop := pastNilUptoRow.holds Tryz.pinned (OpenSpec.upto pastNilSpec)

/-- 'redpencillaw48.PastHolds', WHERE WHAT IT READS IS OF BULK AT MOST 1048576: true; the input reads as it did. -/
def pastHoldsUptoRow : OpenClaim := { program := "ytedijongecdhfaagreat", sum := "c8132ca7f292c87c725f3f4bc0038c5a1ecb3ca3e6bf03bbf58f46a1717161a5", func := "redpencil/redpencillaw48.PastHolds", spec := "pastHolds", inPlace := ["slices.overlaps[redpencil/omap.entry[redpencil/api.Dot, []redpencil/api.Node]]"], unfollowed := true, recurses := true, plainKeys := false, apart := false, narrowed := true }
def PastHoldsUptoSaid : Prop := pastHoldsUptoRow.holds Tryz.pinned (OpenSpec.upto pastHoldsSpec)

end Rows
end Go.Proofs.YtedijongecdhfaaGreat
