/-
  NARROWER THAN 'FOR EVERY INPUT', by the rows' own cells (each row's printed sentence says how): DatumOwn: loops · MatchMatches: loops · MatchBack: loops · MatchRows: loops · MatchNames: loops.
  DERIVED. THE GIVEN ROWS OF THIS SEAT. 6 by the template 'for every input the law returns true; each argument reads behind the call as it read before'; 0 by the template 'total and deterministic' (their statements: YthmpaepdbjldfaaTotals.lean).
  GIVEN WITH THE SEED: the statements are not yours to turn. If you find one false, say at which input.
  Laid BY PROGRAM, IN A SANDBOX (cutbox-rows.mjs): the forced cells as the released guide's own fill.sh prints them over the translation b2e94daf0a5a3d29… (all of the seat's roots in one cut). By AI agents, Wed Nov 11 2026. No macro, syntax, notation, axiom, sorry.
-/
import Derived.Test.YthmpaepdbjldfaaChecked
import GoSem.Claim
import GoSem.ClaimJoined
import GoSem.ClaimMapViews
import Derived.JoinedTies
import Derived.KernelRfl
namespace Go.Proofs.Ythmpaepdbjldfaa
/- THE CELL 'sum', in the pinned program and in every row, IS THE sha256 OF THE DUMP (.gsa) THAT YthmpaepdbjldfaaProg.lean LOADS. Nothing in Lean hashes anything: it is a label: what it is worth is what the hold of that sum in a sandbox is worth. -/
noncomputable def Try.pinned : Pinned := { name := "ythmpaepdbjldfaa", sum := "b2e94daf0a5a3d29cec47479a5d36da7b38162a5990e2f9463727d92ba1d4db5", checked := Try.checked }
namespace Rows
def none {H : Type} : Left H := { results := [], args := [] }

/-- 'pavanelaw03.DatumOwn': WHATEVER THE INPUT: true; the input reads as it did. -/
def datumOwnSpec : ChangeSpec := { name := "datumOwn", fn := fun _ => fun
  | [d] => { results := [.lit (.bool true)], args := [d] }
  | _ => none }
def datumOwnRow : OpenClaim := { program := "ythmpaepdbjldfaa", sum := "b2e94daf0a5a3d29cec47479a5d36da7b38162a5990e2f9463727d92ba1d4db5", func := "pavane/pavanelaw03.DatumOwn", spec := "datumOwn", unfollowed := true, recurses := true, loops := true, apart := false }
def DatumOwnSaid : Prop := datumOwnRow.holds Try.pinned (OpenSpec.ofChange datumOwnSpec)

/-- ITS FALSE NEIGHBOUR: 'it returns false'. Refute it at one input. -/
def datumOwnWrong : ChangeSpec := { name := "datumOwn", fn := fun _ => fun
  | [d] => { results := [.lit (.bool false)], args := [d] }
  | _ => none }
def DatumOwnWrongFalsely : Prop := datumOwnRow.holds Try.pinned (OpenSpec.ofChange datumOwnWrong)

/-- 'pavanelaw06.MatchMatches': WHATEVER THE INPUT: true; the input reads as it did. -/
def matchMatchesSpec : ChangeSpec := { name := "matchMatches", fn := fun _ => fun
  | [d1, d2, d3] => { results := [.lit (.bool true)], args := [d1, d2, d3] }
  | _ => none }
def matchMatchesRow : OpenClaim := { program := "ythmpaepdbjldfaa", sum := "b2e94daf0a5a3d29cec47479a5d36da7b38162a5990e2f9463727d92ba1d4db5", func := "pavane/pavanelaw06.MatchMatches", spec := "matchMatches", unfollowed := true, recurses := true, loops := true, apart := false }
def MatchMatchesSaid : Prop := matchMatchesRow.holds Try.pinned (OpenSpec.ofChange matchMatchesSpec)

/-- ITS FALSE NEIGHBOUR: 'it returns false'. Refute it at one input. -/
def matchMatchesWrong : ChangeSpec := { name := "matchMatches", fn := fun _ => fun
  | [d1, d2, d3] => { results := [.lit (.bool false)], args := [d1, d2, d3] }
  | _ => none }
def MatchMatchesWrongFalsely : Prop := matchMatchesRow.holds Try.pinned (OpenSpec.ofChange matchMatchesWrong)

/-- 'pavanelaw06.MatchBack': WHATEVER THE INPUT: true; the input reads as it did. -/
def matchBackSpec : ChangeSpec := { name := "matchBack", fn := fun _ => fun
  | [d1, d2] => { results := [.lit (.bool true)], args := [d1, d2] }
  | _ => none }
def matchBackRow : OpenClaim := { program := "ythmpaepdbjldfaa", sum := "b2e94daf0a5a3d29cec47479a5d36da7b38162a5990e2f9463727d92ba1d4db5", func := "pavane/pavanelaw06.MatchBack", spec := "matchBack", unfollowed := true, recurses := true, loops := true, apart := false }
def MatchBackSaid : Prop := matchBackRow.holds Try.pinned (OpenSpec.ofChange matchBackSpec)

/-- ITS FALSE NEIGHBOUR: 'it returns false'. Refute it at one input. -/
def matchBackWrong : ChangeSpec := { name := "matchBack", fn := fun _ => fun
  | [d1, d2] => { results := [.lit (.bool false)], args := [d1, d2] }
  | _ => none }
def MatchBackWrongFalsely : Prop := matchBackRow.holds Try.pinned (OpenSpec.ofChange matchBackWrong)

/-- 'pavanelaw06.MatchRows': WHATEVER THE INPUT: true; the input reads as it did. -/
def matchRowsSpec : ChangeSpec := { name := "matchRows", fn := fun _ => fun
  | [d] => { results := [.lit (.bool true)], args := [d] }
  | _ => none }
def matchRowsRow : OpenClaim := { program := "ythmpaepdbjldfaa", sum := "b2e94daf0a5a3d29cec47479a5d36da7b38162a5990e2f9463727d92ba1d4db5", func := "pavane/pavanelaw06.MatchRows", spec := "matchRows", unfollowed := true, recurses := true, loops := true, apart := false }
def MatchRowsSaid : Prop := matchRowsRow.holds Try.pinned (OpenSpec.ofChange matchRowsSpec)

/-- ITS FALSE NEIGHBOUR: 'it returns false'. Refute it at one input. -/
def matchRowsWrong : ChangeSpec := { name := "matchRows", fn := fun _ => fun
  | [d] => { results := [.lit (.bool false)], args := [d] }
  | _ => none }
def MatchRowsWrongFalsely : Prop := matchRowsRow.holds Try.pinned (OpenSpec.ofChange matchRowsWrong)

/-- 'pavanelaw06.MatchLits': WHATEVER THE INPUT: true; the input reads as it did. -/
def matchLitsSpec : ChangeSpec := { name := "matchLits", fn := fun _ => fun
  | [d1, d2, d3] => { results := [.lit (.bool true)], args := [d1, d2, d3] }
  | _ => none }
def matchLitsRow : OpenClaim := { program := "ythmpaepdbjldfaa", sum := "b2e94daf0a5a3d29cec47479a5d36da7b38162a5990e2f9463727d92ba1d4db5", func := "pavane/pavanelaw06.MatchLits", spec := "matchLits", unfollowed := true, recurses := true, apart := false }
def MatchLitsSaid : Prop := matchLitsRow.holds Try.pinned (OpenSpec.ofChange matchLitsSpec)

/-- ITS FALSE NEIGHBOUR: 'it returns false'. Refute it at one input. -/
def matchLitsWrong : ChangeSpec := { name := "matchLits", fn := fun _ => fun
  | [d1, d2, d3] => { results := [.lit (.bool false)], args := [d1, d2, d3] }
  | _ => none }
def MatchLitsWrongFalsely : Prop := matchLitsRow.holds Try.pinned (OpenSpec.ofChange matchLitsWrong)

/-- 'pavanelaw06.MatchNames': WHATEVER THE INPUT: true; the input reads as it did. -/
def matchNamesSpec : ChangeSpec := { name := "matchNames", fn := fun _ => fun
  | [d1, d2, d3] => { results := [.lit (.bool true)], args := [d1, d2, d3] }
  | _ => none }
def matchNamesRow : OpenClaim := { program := "ythmpaepdbjldfaa", sum := "b2e94daf0a5a3d29cec47479a5d36da7b38162a5990e2f9463727d92ba1d4db5", func := "pavane/pavanelaw06.MatchNames", spec := "matchNames", unfollowed := true, recurses := true, loops := true, apart := false }
def MatchNamesSaid : Prop := matchNamesRow.holds Try.pinned (OpenSpec.ofChange matchNamesSpec)

/-- ITS FALSE NEIGHBOUR: 'it returns false'. Refute it at one input. -/
def matchNamesWrong : ChangeSpec := { name := "matchNames", fn := fun _ => fun
  | [d1, d2, d3] => { results := [.lit (.bool false)], args := [d1, d2, d3] }
  | _ => none }
def MatchNamesWrongFalsely : Prop := matchNamesRow.holds Try.pinned (OpenSpec.ofChange matchNamesWrong)

/- THE SECOND FORM. 'bulk': how many values and letters a reading holds, each counted each time it is reached (what is shared counts as often as it is met; a slice's spare places count too). A statement '..UptoSaid' is the law's where the arguments, and the package variables that the reading takes, are together of bulk at most 1048576: NARROWER than '..Said'. Prove '..Said' where nothing that the law and all that it calls make is longer than what came in: it says more and counts as full. Else prove '..UptoSaid'. A law counts once. -/
mutual
def uptoBulk {H : Type} : DataW H → Nat
  | .lit (.string bytes) => bytes.length + 1
  | .lit _ => 1
  | .nil => 1
  | .ptr d => uptoBulk d + 1
  | .slice elems spare => uptoBulkAll elems + uptoBulkAll spare + 1
  | .agg parts => uptoBulkAll parts + 1
  | .iface _ d => uptoBulk d + 1
  | .map entries => uptoBulkEntries entries + 1
  | .held _ => 1
def uptoBulkAll {H : Type} : List (DataW H) → Nat
  | [] => 0
  | d :: r => uptoBulk d + uptoBulkAll r
def uptoBulkEntries {H : Type} : List (Lit × DataW H) → Nat
  | [] => 0
  | x :: r => uptoBulkEntry x + uptoBulkEntries r
def uptoBulkEntry {H : Type} : Lit × DataW H → Nat
  | (.string bytes, d) => bytes.length + uptoBulk d + 1
  | (_, d) => uptoBulk d + 1
 end
def uptoSmall : (H : Type) → List (DataW H) → Bool := fun _ ds => decide (uptoBulkAll ds ≤ 1048576)
def OpenSpec.upto (s : _root_.Go.ChangeSpec) : _root_.Go.OpenSpec := { _root_.Go.OpenSpec.ofChange s with cond := some uptoSmall }

/-- 'pavanelaw03.DatumOwn', WHERE WHAT IT READS IS OF BULK AT MOST 1048576: true; the input reads as it did. -/
def datumOwnUptoRow : OpenClaim := { program := "ythmpaepdbjldfaa", sum := "b2e94daf0a5a3d29cec47479a5d36da7b38162a5990e2f9463727d92ba1d4db5", func := "pavane/pavanelaw03.DatumOwn", spec := "datumOwn", unfollowed := true, recurses := true, loops := true, apart := false, narrowed := true }
def DatumOwnUptoSaid : Prop := datumOwnUptoRow.holds Try.pinned (OpenSpec.upto datumOwnSpec)

/-- 'pavanelaw06.MatchMatches', WHERE WHAT IT READS IS OF BULK AT MOST 1048576: true; the input reads as it did. -/
def matchMatchesUptoRow : OpenClaim := { program := "ythmpaepdbjldfaa", sum := "b2e94daf0a5a3d29cec47479a5d36da7b38162a5990e2f9463727d92ba1d4db5", func := "pavane/pavanelaw06.MatchMatches", spec := "matchMatches", unfollowed := true, recurses := true, loops := true, apart := false, narrowed := true }
def MatchMatchesUptoSaid : Prop := matchMatchesUptoRow.holds Try.pinned (OpenSpec.upto matchMatchesSpec)

/-- 'pavanelaw06.MatchBack', WHERE WHAT IT READS IS OF BULK AT MOST 1048576: true; the input reads as it did. -/
def matchBackUptoRow : OpenClaim := { program := "ythmpaepdbjldfaa", sum := "b2e94daf0a5a3d29cec47479a5d36da7b38162a5990e2f9463727d92ba1d4db5", func := "pavane/pavanelaw06.MatchBack", spec := "matchBack", unfollowed := true, recurses := true, loops := true, apart := false, narrowed := true }
def MatchBackUptoSaid : Prop := matchBackUptoRow.holds Try.pinned (OpenSpec.upto matchBackSpec)

/-- 'pavanelaw06.MatchRows', WHERE WHAT IT READS IS OF BULK AT MOST 1048576: true; the input reads as it did. -/
def matchRowsUptoRow : OpenClaim := { program := "ythmpaepdbjldfaa", sum := "b2e94daf0a5a3d29cec47479a5d36da7b38162a5990e2f9463727d92ba1d4db5", func := "pavane/pavanelaw06.MatchRows", spec := "matchRows", unfollowed := true, recurses := true, loops := true, apart := false, narrowed := true }
def MatchRowsUptoSaid : Prop := matchRowsUptoRow.holds Try.pinned (OpenSpec.upto matchRowsSpec)

/-- 'pavanelaw06.MatchLits', WHERE WHAT IT READS IS OF BULK AT MOST 1048576: true; the input reads as it did. -/
def matchLitsUptoRow : OpenClaim := { program := "ythmpaepdbjldfaa", sum := "b2e94daf0a5a3d29cec47479a5d36da7b38162a5990e2f9463727d92ba1d4db5", func := "pavane/pavanelaw06.MatchLits", spec := "matchLits", unfollowed := true, recurses := true, apart := false, narrowed := true }
def MatchLitsUptoSaid : Prop := matchLitsUptoRow.holds Try.pinned (OpenSpec.upto matchLitsSpec)

/-- 'pavanelaw06.MatchNames', WHERE WHAT IT READS IS OF BULK AT MOST 1048576: true; the input reads as it did. -/
def matchNamesUptoRow : OpenClaim := { program := "ythmpaepdbjldfaa", sum := "b2e94daf0a5a3d29cec47479a5d36da7b38162a5990e2f9463727d92ba1d4db5", func := "pavane/pavanelaw06.MatchNames", spec := "matchNames", unfollowed := true, recurses := true, loops := true, apart := false, narrowed := true }
def MatchNamesUptoSaid : Prop := matchNamesUptoRow.holds Try.pinned (OpenSpec.upto matchNamesSpec)

end Rows
end Go.Proofs.Ythmpaepdbjldfaa
