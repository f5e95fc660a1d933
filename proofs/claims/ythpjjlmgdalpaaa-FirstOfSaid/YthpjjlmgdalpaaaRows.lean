/-
  No cell of these rows narrows 'for every input' (looked for: loops, veiled, ifaces, maps, wideKeys, modest, calm, conditions, laid).
  DERIVED. THE GIVEN ROWS OF THIS SEAT. 12 by the template 'for every input the law returns true; each argument reads behind the call as it read before'; 0 by the template 'total and deterministic' (their statements: YthpjjlmgdalpaaaTotals.lean).
  GIVEN WITH THE SEED: the statements are not yours to turn. If you find one false, say at which input.
  Laid BY PROGRAM, IN A SANDBOX (cutbox-rows.mjs): the forced cells as the released guide's own fill.sh prints them over the translation 6074f29b9fb88703… (all of the seat's roots in one cut). By AI agents, Wed Nov 11 2026. No macro, syntax, notation, axiom, sorry.
-/
import Derived.Test.YthpjjlmgdalpaaaChecked
import GoSem.Claim
import GoSem.ClaimJoined
import GoSem.ClaimMapViews
import Derived.JoinedTies
import Derived.KernelRfl
namespace Go.Proofs.Ythpjjlmgdalpaaa
/- THE CELL 'sum', in the pinned program and in every row, IS THE sha256 OF THE DUMP (.gsa) THAT YthpjjlmgdalpaaaProg.lean LOADS. Nothing in Lean hashes anything: it is a label: what it is worth is what the hold of that sum in a sandbox is worth. -/
noncomputable def Try.pinned : Pinned := { name := "ythpjjlmgdalpaaa", sum := "6074f29b9fb88703a13960489fe356e8e7ea6c577bb7d54271453bc747c06248", checked := Try.checked }
namespace Rows
def none {H : Type} : Left H := { results := [], args := [] }

/-- 'repertorylaw47.WitnessChecks': WHATEVER THE INPUT: true; the input reads as it did. -/
def witnessChecksSpec : ChangeSpec := { name := "witnessChecks", fn := fun _ => fun
  | [d1, d2, d3, d4, d5] => { results := [.lit (.bool true)], args := [d1, d2, d3, d4, d5] }
  | _ => none }
def witnessChecksRow : OpenClaim := { program := "ythpjjlmgdalpaaa", sum := "6074f29b9fb88703a13960489fe356e8e7ea6c577bb7d54271453bc747c06248", func := "repertory/repertorylaw47.WitnessChecks", spec := "witnessChecks", unfollowed := true, recurses := true, plainKeys := false, apart := false }
def WitnessChecksSaid : Prop := witnessChecksRow.holds Try.pinned (OpenSpec.ofChange witnessChecksSpec)

/-- ITS FALSE NEIGHBOUR: 'it returns false'. Refute it at one input. -/
def witnessChecksWrong : ChangeSpec := { name := "witnessChecks", fn := fun _ => fun
  | [d1, d2, d3, d4, d5] => { results := [.lit (.bool false)], args := [d1, d2, d3, d4, d5] }
  | _ => none }
def WitnessChecksWrongFalsely : Prop := witnessChecksRow.holds Try.pinned (OpenSpec.ofChange witnessChecksWrong)

/-- 'repertorylaw47.WitnessFewest': WHATEVER THE INPUT: true; the input reads as it did. -/
def witnessFewestSpec : ChangeSpec := { name := "witnessFewest", fn := fun _ => fun
  | [d1, d2, d3, d4] => { results := [.lit (.bool true)], args := [d1, d2, d3, d4] }
  | _ => none }
def witnessFewestRow : OpenClaim := { program := "ythpjjlmgdalpaaa", sum := "6074f29b9fb88703a13960489fe356e8e7ea6c577bb7d54271453bc747c06248", func := "repertory/repertorylaw47.WitnessFewest", spec := "witnessFewest", unfollowed := true, recurses := true, plainKeys := false, apart := false }
def WitnessFewestSaid : Prop := witnessFewestRow.holds Try.pinned (OpenSpec.ofChange witnessFewestSpec)

/-- ITS FALSE NEIGHBOUR: 'it returns false'. Refute it at one input. -/
def witnessFewestWrong : ChangeSpec := { name := "witnessFewest", fn := fun _ => fun
  | [d1, d2, d3, d4] => { results := [.lit (.bool false)], args := [d1, d2, d3, d4] }
  | _ => none }
def WitnessFewestWrongFalsely : Prop := witnessFewestRow.holds Try.pinned (OpenSpec.ofChange witnessFewestWrong)

/-- 'repertorylaw20.FirstWords': WHATEVER THE INPUT: true; the input reads as it did. -/
def firstWordsSpec : ChangeSpec := { name := "firstWords", fn := fun _ => fun
  | [d1, d2] => { results := [.lit (.bool true)], args := [d1, d2] }
  | _ => none }
def firstWordsRow : OpenClaim := { program := "ythpjjlmgdalpaaa", sum := "6074f29b9fb88703a13960489fe356e8e7ea6c577bb7d54271453bc747c06248", func := "repertory/repertorylaw20.FirstWords", spec := "firstWords", unfollowed := true, recurses := true, plainKeys := false, apart := false }
def FirstWordsSaid : Prop := firstWordsRow.holds Try.pinned (OpenSpec.ofChange firstWordsSpec)

/-- ITS FALSE NEIGHBOUR: 'it returns false'. Refute it at one input. -/
def firstWordsWrong : ChangeSpec := { name := "firstWords", fn := fun _ => fun
  | [d1, d2] => { results := [.lit (.bool false)], args := [d1, d2] }
  | _ => none }
def FirstWordsWrongFalsely : Prop := firstWordsRow.holds Try.pinned (OpenSpec.ofChange firstWordsWrong)

/-- 'repertorylaw20.FirstOf': WHATEVER THE INPUT: true; the input reads as it did. -/
def firstOfSpec : ChangeSpec := { name := "firstOf", fn := fun _ => fun
  | [d1, d2, d3] => { results := [.lit (.bool true)], args := [d1, d2, d3] }
  | _ => none }
def firstOfRow : OpenClaim := { program := "ythpjjlmgdalpaaa", sum := "6074f29b9fb88703a13960489fe356e8e7ea6c577bb7d54271453bc747c06248", func := "repertory/repertorylaw20.FirstOf", spec := "firstOf", unfollowed := true, recurses := true, plainKeys := false, apart := false }
def FirstOfSaid : Prop := firstOfRow.holds Try.pinned (OpenSpec.ofChange firstOfSpec)

/-- ITS FALSE NEIGHBOUR: 'it returns false'. Refute it at one input. -/
def firstOfWrong : ChangeSpec := { name := "firstOf", fn := fun _ => fun
  | [d1, d2, d3] => { results := [.lit (.bool false)], args := [d1, d2, d3] }
  | _ => none }
def FirstOfWrongFalsely : Prop := firstOfRow.holds Try.pinned (OpenSpec.ofChange firstOfWrong)

/-- 'repertorylaw20.FirstLimit': WHATEVER THE INPUT: true; the input reads as it did. -/
def firstLimitSpec : ChangeSpec := { name := "firstLimit", fn := fun _ => fun
  | [d1, d2] => { results := [.lit (.bool true)], args := [d1, d2] }
  | _ => none }
def firstLimitRow : OpenClaim := { program := "ythpjjlmgdalpaaa", sum := "6074f29b9fb88703a13960489fe356e8e7ea6c577bb7d54271453bc747c06248", func := "repertory/repertorylaw20.FirstLimit", spec := "firstLimit", unfollowed := true, recurses := true, plainKeys := false, apart := false }
def FirstLimitSaid : Prop := firstLimitRow.holds Try.pinned (OpenSpec.ofChange firstLimitSpec)

/-- ITS FALSE NEIGHBOUR: 'it returns false'. Refute it at one input. -/
def firstLimitWrong : ChangeSpec := { name := "firstLimit", fn := fun _ => fun
  | [d1, d2] => { results := [.lit (.bool false)], args := [d1, d2] }
  | _ => none }
def FirstLimitWrongFalsely : Prop := firstLimitRow.holds Try.pinned (OpenSpec.ofChange firstLimitWrong)

/-- 'repertorylaw21.FollowWords': WHATEVER THE INPUT: true; the input reads as it did. -/
def followWordsSpec : ChangeSpec := { name := "followWords", fn := fun _ => fun
  | [d1, d2] => { results := [.lit (.bool true)], args := [d1, d2] }
  | _ => none }
def followWordsRow : OpenClaim := { program := "ythpjjlmgdalpaaa", sum := "6074f29b9fb88703a13960489fe356e8e7ea6c577bb7d54271453bc747c06248", func := "repertory/repertorylaw21.FollowWords", spec := "followWords", unfollowed := true, recurses := true, plainKeys := false, apart := false }
def FollowWordsSaid : Prop := followWordsRow.holds Try.pinned (OpenSpec.ofChange followWordsSpec)

/-- ITS FALSE NEIGHBOUR: 'it returns false'. Refute it at one input. -/
def followWordsWrong : ChangeSpec := { name := "followWords", fn := fun _ => fun
  | [d1, d2] => { results := [.lit (.bool false)], args := [d1, d2] }
  | _ => none }
def FollowWordsWrongFalsely : Prop := followWordsRow.holds Try.pinned (OpenSpec.ofChange followWordsWrong)

/-- 'repertorylaw21.FollowBehind': WHATEVER THE INPUT: true; the input reads as it did. -/
def followBehindSpec : ChangeSpec := { name := "followBehind", fn := fun _ => fun
  | [d1, d2, d3, d4] => { results := [.lit (.bool true)], args := [d1, d2, d3, d4] }
  | _ => none }
def followBehindRow : OpenClaim := { program := "ythpjjlmgdalpaaa", sum := "6074f29b9fb88703a13960489fe356e8e7ea6c577bb7d54271453bc747c06248", func := "repertory/repertorylaw21.FollowBehind", spec := "followBehind", unfollowed := true, recurses := true, plainKeys := false, apart := false }
def FollowBehindSaid : Prop := followBehindRow.holds Try.pinned (OpenSpec.ofChange followBehindSpec)

/-- ITS FALSE NEIGHBOUR: 'it returns false'. Refute it at one input. -/
def followBehindWrong : ChangeSpec := { name := "followBehind", fn := fun _ => fun
  | [d1, d2, d3, d4] => { results := [.lit (.bool false)], args := [d1, d2, d3, d4] }
  | _ => none }
def FollowBehindWrongFalsely : Prop := followBehindRow.holds Try.pinned (OpenSpec.ofChange followBehindWrong)

/-- 'repertorylaw21.FollowLimit': WHATEVER THE INPUT: true; the input reads as it did. -/
def followLimitSpec : ChangeSpec := { name := "followLimit", fn := fun _ => fun
  | [d] => { results := [.lit (.bool true)], args := [d] }
  | _ => none }
def followLimitRow : OpenClaim := { program := "ythpjjlmgdalpaaa", sum := "6074f29b9fb88703a13960489fe356e8e7ea6c577bb7d54271453bc747c06248", func := "repertory/repertorylaw21.FollowLimit", spec := "followLimit", unfollowed := true, recurses := true, plainKeys := false, apart := false }
def FollowLimitSaid : Prop := followLimitRow.holds Try.pinned (OpenSpec.ofChange followLimitSpec)

/-- ITS FALSE NEIGHBOUR: 'it returns false'. Refute it at one input. -/
def followLimitWrong : ChangeSpec := { name := "followLimit", fn := fun _ => fun
  | [d] => { results := [.lit (.bool false)], args := [d] }
  | _ => none }
def FollowLimitWrongFalsely : Prop := followLimitRow.holds Try.pinned (OpenSpec.ofChange followLimitWrong)

/-- 'repertorylaw27.LangYields': WHATEVER THE INPUT: true; the input reads as it did. -/
def langYieldsSpec : ChangeSpec := { name := "langYields", fn := fun _ => fun
  | [d1, d2] => { results := [.lit (.bool true)], args := [d1, d2] }
  | _ => none }
def langYieldsRow : OpenClaim := { program := "ythpjjlmgdalpaaa", sum := "6074f29b9fb88703a13960489fe356e8e7ea6c577bb7d54271453bc747c06248", func := "repertory/repertorylaw27.LangYields", spec := "langYields", unfollowed := true, recurses := true, plainKeys := false, apart := false }
def LangYieldsSaid : Prop := langYieldsRow.holds Try.pinned (OpenSpec.ofChange langYieldsSpec)

/-- ITS FALSE NEIGHBOUR: 'it returns false'. Refute it at one input. -/
def langYieldsWrong : ChangeSpec := { name := "langYields", fn := fun _ => fun
  | [d1, d2] => { results := [.lit (.bool false)], args := [d1, d2] }
  | _ => none }
def LangYieldsWrongFalsely : Prop := langYieldsRow.holds Try.pinned (OpenSpec.ofChange langYieldsWrong)

/-- 'repertorylaw27.LangSentences': WHATEVER THE INPUT: true; the input reads as it did. -/
def langSentencesSpec : ChangeSpec := { name := "langSentences", fn := fun _ => fun
  | [d1, d2] => { results := [.lit (.bool true)], args := [d1, d2] }
  | _ => none }
def langSentencesRow : OpenClaim := { program := "ythpjjlmgdalpaaa", sum := "6074f29b9fb88703a13960489fe356e8e7ea6c577bb7d54271453bc747c06248", func := "repertory/repertorylaw27.LangSentences", spec := "langSentences", unfollowed := true, recurses := true, plainKeys := false, apart := false }
def LangSentencesSaid : Prop := langSentencesRow.holds Try.pinned (OpenSpec.ofChange langSentencesSpec)

/-- ITS FALSE NEIGHBOUR: 'it returns false'. Refute it at one input. -/
def langSentencesWrong : ChangeSpec := { name := "langSentences", fn := fun _ => fun
  | [d1, d2] => { results := [.lit (.bool false)], args := [d1, d2] }
  | _ => none }
def LangSentencesWrongFalsely : Prop := langSentencesRow.holds Try.pinned (OpenSpec.ofChange langSentencesWrong)

/-- 'repertorylaw27.LangHas': WHATEVER THE INPUT: true; the input reads as it did. -/
def langHasSpec : ChangeSpec := { name := "langHas", fn := fun _ => fun
  | [d1, d2] => { results := [.lit (.bool true)], args := [d1, d2] }
  | _ => none }
def langHasRow : OpenClaim := { program := "ythpjjlmgdalpaaa", sum := "6074f29b9fb88703a13960489fe356e8e7ea6c577bb7d54271453bc747c06248", func := "repertory/repertorylaw27.LangHas", spec := "langHas", unfollowed := true, recurses := true, plainKeys := false, apart := false }
def LangHasSaid : Prop := langHasRow.holds Try.pinned (OpenSpec.ofChange langHasSpec)

/-- ITS FALSE NEIGHBOUR: 'it returns false'. Refute it at one input. -/
def langHasWrong : ChangeSpec := { name := "langHas", fn := fun _ => fun
  | [d1, d2] => { results := [.lit (.bool false)], args := [d1, d2] }
  | _ => none }
def LangHasWrongFalsely : Prop := langHasRow.holds Try.pinned (OpenSpec.ofChange langHasWrong)

/-- 'repertorylaw27.LangDerives': WHATEVER THE INPUT: true; the input reads as it did. -/
def langDerivesSpec : ChangeSpec := { name := "langDerives", fn := fun _ => fun
  | [d1, d2] => { results := [.lit (.bool true)], args := [d1, d2] }
  | _ => none }
def langDerivesRow : OpenClaim := { program := "ythpjjlmgdalpaaa", sum := "6074f29b9fb88703a13960489fe356e8e7ea6c577bb7d54271453bc747c06248", func := "repertory/repertorylaw27.LangDerives", spec := "langDerives", unfollowed := true, recurses := true, plainKeys := false, apart := false }
def LangDerivesSaid : Prop := langDerivesRow.holds Try.pinned (OpenSpec.ofChange langDerivesSpec)

/-- ITS FALSE NEIGHBOUR: 'it returns false'. Refute it at one input. -/
def langDerivesWrong : ChangeSpec := { name := "langDerives", fn := fun _ => fun
  | [d1, d2] => { results := [.lit (.bool false)], args := [d1, d2] }
  | _ => none }
def LangDerivesWrongFalsely : Prop := langDerivesRow.holds Try.pinned (OpenSpec.ofChange langDerivesWrong)

/- THE SECOND FORM. 'bulk': how many values and letters a reading holds, each counted each time it is reached (what is shared counts as often as it is met; a slice's spare places count too). A statement '..UptoSaid' is the law's where the arguments, and the package variables that the reading takes, are together of bulk at most 1048576: NARROWER than '..Said'. Prove '..Said' where nothing that the law and all that it calls make is longer than what came in: it says more and counts as full. Else prove '..UptoSaid'. A law counts once. -/
mutual
def uptoBulk {H : Type} : DataW H → Nat
  | .lit (.string bytes) => bytes.length + 1
  | .lit _ => 1
  | .nil => 1
  | .ptr d => uptoBulk d + 1
  | .slice elems spare => uptoBulkAll elems + uptoBulkAll spare + 1
  | .agg parts => uptoBulkAll parts + 1
  | .iface _ d => uptoBulk d + 1
  | .map entries => uptoBulkEntries entries + 1
  | .held _ => 1
def uptoBulkAll {H : Type} : List (DataW H) → Nat
  | [] => 0
  | d :: r => uptoBulk d + uptoBulkAll r
def uptoBulkEntries {H : Type} : List (Lit × DataW H) → Nat
  | [] => 0
  | x :: r => uptoBulkEntry x + uptoBulkEntries r
def uptoBulkEntry {H : Type} : Lit × DataW H → Nat
  | (.string bytes, d) => bytes.length + uptoBulk d + 1
  | (_, d) => uptoBulk d + 1
 end
def uptoSmall : (H : Type) → List (DataW H) → Bool := fun _ ds => decide (uptoBulkAll ds ≤ 1048576)
def OpenSpec.upto (s : _root_.Go.ChangeSpec) : _root_.Go.OpenSpec := { _root_.Go.OpenSpec.ofChange s with cond := some uptoSmall }

/-- 'repertorylaw47.WitnessChecks', WHERE WHAT IT READS IS OF BULK AT MOST 1048576: true; the input reads as it did. -/
def witnessChecksUptoRow : OpenClaim := { program := "ythpjjlmgdalpaaa", sum := "6074f29b9fb88703a13960489fe356e8e7ea6c577bb7d54271453bc747c06248", func := "repertory/repertorylaw47.WitnessChecks", spec := "witnessChecks", unfollowed := true, recurses := true, plainKeys := false, apart := false, narrowed := true }
def WitnessChecksUptoSaid : Prop := witnessChecksUptoRow.holds Try.pinned (OpenSpec.upto witnessChecksSpec)

/-- 'repertorylaw47.WitnessFewest', WHERE WHAT IT READS IS OF BULK AT MOST 1048576: true; the input reads as it did. -/
def witnessFewestUptoRow : OpenClaim := { program := "ythpjjlmgdalpaaa", sum := "6074f29b9fb88703a13960489fe356e8e7ea6c577bb7d54271453bc747c06248", func := "repertory/repertorylaw47.WitnessFewest", spec := "witnessFewest", unfollowed := true, recurses := true, plainKeys := false, apart := false, narrowed := true }
def WitnessFewestUptoSaid : Prop := witnessFewestUptoRow.holds Try.pinned (OpenSpec.upto witnessFewestSpec)

/-- 'repertorylaw20.FirstWords', WHERE WHAT IT READS IS OF BULK AT MOST 1048576: true; the input reads as it did. -/
def firstWordsUptoRow : OpenClaim := { program := "ythpjjlmgdalpaaa", sum := "6074f29b9fb88703a13960489fe356e8e7ea6c577bb7d54271453bc747c06248", func := "repertory/repertorylaw20.FirstWords", spec := "firstWords", unfollowed := true, recurses := true, plainKeys := false, apart := false, narrowed := true }
def FirstWordsUptoSaid : Prop := firstWordsUptoRow.holds Try.pinned (OpenSpec.upto firstWordsSpec)

/-- 'repertorylaw20.FirstOf', WHERE WHAT IT READS IS OF BULK AT MOST 1048576: true; the input reads as it did. -/
def firstOfUptoRow : OpenClaim := { program := "ythpjjlmgdalpaaa", sum := "6074f29b9fb88703a13960489fe356e8e7ea6c577bb7d54271453bc747c06248", func := "repertory/repertorylaw20.FirstOf", spec := "firstOf", unfollowed := true, recurses := true, plainKeys := false, apart := false, narrowed := true }
def FirstOfUptoSaid : Prop := firstOfUptoRow.holds Try.pinned (OpenSpec.upto firstOfSpec)

/-- 'repertorylaw20.FirstLimit', WHERE WHAT IT READS IS OF BULK AT MOST 1048576: true; the input reads as it did. -/
def firstLimitUptoRow : OpenClaim := { program := "ythpjjlmgdalpaaa", sum := "6074f29b9fb88703a13960489fe356e8e7ea6c577bb7d54271453bc747c06248", func := "repertory/repertorylaw20.FirstLimit", spec := "firstLimit", unfollowed := true, recurses := true, plainKeys := false, apart := false, narrowed := true }
def FirstLimitUptoSaid : Prop := firstLimitUptoRow.holds Try.pinned (OpenSpec.upto firstLimitSpec)

/-- 'repertorylaw21.FollowWords', WHERE WHAT IT READS IS OF BULK AT MOST 1048576: true; the input reads as it did. -/
def followWordsUptoRow : OpenClaim := { program := "ythpjjlmgdalpaaa", sum := "6074f29b9fb88703a13960489fe356e8e7ea6c577bb7d54271453bc747c06248", func := "repertory/repertorylaw21.FollowWords", spec := "followWords", unfollowed := true, recurses := true, plainKeys := false, apart := false, narrowed := true }
def FollowWordsUptoSaid : Prop := followWordsUptoRow.holds Try.pinned (OpenSpec.upto followWordsSpec)

/-- 'repertorylaw21.FollowBehind', WHERE WHAT IT READS IS OF BULK AT MOST 1048576: true; the input reads as it did. -/
def followBehindUptoRow : OpenClaim := { program := "ythpjjlmgdalpaaa", sum := "6074f29b9fb88703a13960489fe356e8e7ea6c577bb7d54271453bc747c06248", func := "repertory/repertorylaw21.FollowBehind", spec := "followBehind", unfollowed := true, recurses := true, plainKeys := false, apart := false, narrowed := true }
def FollowBehindUptoSaid : Prop := followBehindUptoRow.holds Try.pinned (OpenSpec.upto followBehindSpec)

/-- 'repertorylaw21.FollowLimit', WHERE WHAT IT READS IS OF BULK AT MOST 1048576: true; the input reads as it did. -/
def followLimitUptoRow : OpenClaim := { program := "ythpjjlmgdalpaaa", sum := "6074f29b9fb88703a13960489fe356e8e7ea6c577bb7d54271453bc747c06248", func := "repertory/repertorylaw21.FollowLimit", spec := "followLimit", unfollowed := true, recurses := true, plainKeys := false, apart := false, narrowed := true }
def FollowLimitUptoSaid : Prop := followLimitUptoRow.holds Try.pinned (OpenSpec.upto followLimitSpec)

/-- 'repertorylaw27.LangYields', WHERE WHAT IT READS IS OF BULK AT MOST 1048576: true; the input reads as it did. -/
def langYieldsUptoRow : OpenClaim := { program := "ythpjjlmgdalpaaa", sum := "6074f29b9fb88703a13960489fe356e8e7ea6c577bb7d54271453bc747c06248", func := "repertory/repertorylaw27.LangYields", spec := "langYields", unfollowed := true, recurses := true, plainKeys := false, apart := false, narrowed := true }
def LangYieldsUptoSaid : Prop := langYieldsUptoRow.holds Try.pinned (OpenSpec.upto langYieldsSpec)

/-- 'repertorylaw27.LangSentences', WHERE WHAT IT READS IS OF BULK AT MOST 1048576: true; the input reads as it did. -/
def langSentencesUptoRow : OpenClaim := { program := "ythpjjlmgdalpaaa", sum := "6074f29b9fb88703a13960489fe356e8e7ea6c577bb7d54271453bc747c06248", func := "repertory/repertorylaw27.LangSentences", spec := "langSentences", unfollowed := true, recurses := true, plainKeys := false, apart := false, narrowed := true }
def LangSentencesUptoSaid : Prop := langSentencesUptoRow.holds Try.pinned (OpenSpec.upto langSentencesSpec)

/-- 'repertorylaw27.LangHas', WHERE WHAT IT READS IS OF BULK AT MOST 1048576: true; the input reads as it did. -/
def langHasUptoRow : OpenClaim := { program := "ythpjjlmgdalpaaa", sum := "6074f29b9fb88703a13960489fe356e8e7ea6c577bb7d54271453bc747c06248", func := "repertory/repertorylaw27.LangHas", spec := "langHas", unfollowed := true, recurses := true, plainKeys := false, apart := false, narrowed := true }
def LangHasUptoSaid : Prop := langHasUptoRow.holds Try.pinned (OpenSpec.upto langHasSpec)

/-- 'repertorylaw27.LangDerives', WHERE WHAT IT READS IS OF BULK AT MOST 1048576: true; the input reads as it did. -/
def langDerivesUptoRow : OpenClaim := { program := "ythpjjlmgdalpaaa", sum := "6074f29b9fb88703a13960489fe356e8e7ea6c577bb7d54271453bc747c06248", func := "repertory/repertorylaw27.LangDerives", spec := "langDerives", unfollowed := true, recurses := true, plainKeys := false, apart := false, narrowed := true }
def LangDerivesUptoSaid : Prop := langDerivesUptoRow.holds Try.pinned (OpenSpec.upto langDerivesSpec)

end Rows
end Go.Proofs.Ythpjjlmgdalpaaa
