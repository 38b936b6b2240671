/-
  NARROWER THAN 'FOR EVERY INPUT', by the rows' own cells (each row's printed sentence says how): DatumOwn: loops · DatumSizes: loops.
  DERIVED. THE GIVEN ROWS OF THIS SEAT. 12 by the template 'for every input the law returns true; each argument reads behind the call as it read before'; 0 by the template 'total and deterministic' (their statements: YtkbnkpllbgofhaaTotals.lean).
  GIVEN WITH THE SEED: the statements are not yours to turn. If you find one false, say at which input.
  Laid BY PROGRAM, IN A SANDBOX (cutbox-rows.mjs): the forced cells as the released guide's own fill.sh prints them over the translation 2f33f0f618b216d1… (all of the seat's roots in one cut). By AI agents, Wed Nov 11 2026. No macro, syntax, notation, axiom, sorry.
-/
import Derived.Test.YtkbnkpllbgofhaaChecked
import GoSem.Claim
import GoSem.ClaimJoined
import GoSem.ClaimMapViews
import Derived.JoinedTies
import Derived.KernelRfl
namespace Go.Proofs.Ytkbnkpllbgofhaa
/- THE CELL 'sum', in the pinned program and in every row, IS THE sha256 OF THE DUMP (.gsa) THAT YtkbnkpllbgofhaaProg.lean LOADS. Nothing in Lean hashes anything: it is a label: what it is worth is what the hold of that sum in a sandbox is worth. -/
noncomputable def Try.pinned : Pinned := { name := "ytkbnkpllbgofhaa", sum := "2f33f0f618b216d1d55207e15a22b0cf5b69b7b1999b1e62d115af070b0cfc73", checked := Try.checked }
namespace Rows
def none {H : Type} : Left H := { results := [], args := [] }

/-- 'pavanelaw17.HeapFull': WHATEVER THE INPUT: true; the input reads as it did. -/
def heapFullSpec : ChangeSpec := { name := "heapFull", fn := fun _ => fun
  | [d1, d2] => { results := [.lit (.bool true)], args := [d1, d2] }
  | _ => none }
def heapFullRow : OpenClaim := { program := "ytkbnkpllbgofhaa", sum := "2f33f0f618b216d1d55207e15a22b0cf5b69b7b1999b1e62d115af070b0cfc73", func := "pavane/pavanelaw17.HeapFull", spec := "heapFull", apart := false }
def HeapFullSaid : Prop := heapFullRow.holds Try.pinned (OpenSpec.ofChange heapFullSpec)

/-- ITS FALSE NEIGHBOUR: 'it returns false'. Refute it at one input. -/
def heapFullWrong : ChangeSpec := { name := "heapFull", fn := fun _ => fun
  | [d1, d2] => { results := [.lit (.bool false)], args := [d1, d2] }
  | _ => none }
def HeapFullWrongFalsely : Prop := heapFullRow.holds Try.pinned (OpenSpec.ofChange heapFullWrong)

/-- 'pavanelaw17.HeapBack': WHATEVER THE INPUT: true; the input reads as it did. -/
def heapBackSpec : ChangeSpec := { name := "heapBack", fn := fun _ => fun
  | [d1, d2] => { results := [.lit (.bool true)], args := [d1, d2] }
  | _ => none }
def heapBackRow : OpenClaim := { program := "ytkbnkpllbgofhaa", sum := "2f33f0f618b216d1d55207e15a22b0cf5b69b7b1999b1e62d115af070b0cfc73", func := "pavane/pavanelaw17.HeapBack", spec := "heapBack", apart := false }
def HeapBackSaid : Prop := heapBackRow.holds Try.pinned (OpenSpec.ofChange heapBackSpec)

/-- ITS FALSE NEIGHBOUR: 'it returns false'. Refute it at one input. -/
def heapBackWrong : ChangeSpec := { name := "heapBack", fn := fun _ => fun
  | [d1, d2] => { results := [.lit (.bool false)], args := [d1, d2] }
  | _ => none }
def HeapBackWrongFalsely : Prop := heapBackRow.holds Try.pinned (OpenSpec.ofChange heapBackWrong)

/-- 'pavanelaw17.HeapKeeps': WHATEVER THE INPUT: true; the input reads as it did. -/
def heapKeepsSpec : ChangeSpec := { name := "heapKeeps", fn := fun _ => fun
  | [d1, d2, d3] => { results := [.lit (.bool true)], args := [d1, d2, d3] }
  | _ => none }
def heapKeepsRow : OpenClaim := { program := "ytkbnkpllbgofhaa", sum := "2f33f0f618b216d1d55207e15a22b0cf5b69b7b1999b1e62d115af070b0cfc73", func := "pavane/pavanelaw17.HeapKeeps", spec := "heapKeeps", apart := false }
def HeapKeepsSaid : Prop := heapKeepsRow.holds Try.pinned (OpenSpec.ofChange heapKeepsSpec)

/-- ITS FALSE NEIGHBOUR: 'it returns false'. Refute it at one input. -/
def heapKeepsWrong : ChangeSpec := { name := "heapKeeps", fn := fun _ => fun
  | [d1, d2, d3] => { results := [.lit (.bool false)], args := [d1, d2, d3] }
  | _ => none }
def HeapKeepsWrongFalsely : Prop := heapKeepsRow.holds Try.pinned (OpenSpec.ofChange heapKeepsWrong)

/-- 'pavanelaw17.HeapWords': WHATEVER THE INPUT: true; the input reads as it did. -/
def heapWordsSpec : ChangeSpec := { name := "heapWords", fn := fun _ => fun
  | [d1, d2] => { results := [.lit (.bool true)], args := [d1, d2] }
  | _ => none }
def heapWordsRow : OpenClaim := { program := "ytkbnkpllbgofhaa", sum := "2f33f0f618b216d1d55207e15a22b0cf5b69b7b1999b1e62d115af070b0cfc73", func := "pavane/pavanelaw17.HeapWords", spec := "heapWords", apart := false }
def HeapWordsSaid : Prop := heapWordsRow.holds Try.pinned (OpenSpec.ofChange heapWordsSpec)

/-- ITS FALSE NEIGHBOUR: 'it returns false'. Refute it at one input. -/
def heapWordsWrong : ChangeSpec := { name := "heapWords", fn := fun _ => fun
  | [d1, d2] => { results := [.lit (.bool false)], args := [d1, d2] }
  | _ => none }
def HeapWordsWrongFalsely : Prop := heapWordsRow.holds Try.pinned (OpenSpec.ofChange heapWordsWrong)

/-- 'pavanelaw17.HeapActs': WHATEVER THE INPUT: true; the input reads as it did. -/
def heapActsSpec : ChangeSpec := { name := "heapActs", fn := fun _ => fun
  | [d1, d2] => { results := [.lit (.bool true)], args := [d1, d2] }
  | _ => none }
def heapActsRow : OpenClaim := { program := "ytkbnkpllbgofhaa", sum := "2f33f0f618b216d1d55207e15a22b0cf5b69b7b1999b1e62d115af070b0cfc73", func := "pavane/pavanelaw17.HeapActs", spec := "heapActs", unfollowed := true, recurses := true, apart := false }
def HeapActsSaid : Prop := heapActsRow.holds Try.pinned (OpenSpec.ofChange heapActsSpec)

/-- ITS FALSE NEIGHBOUR: 'it returns false'. Refute it at one input. -/
def heapActsWrong : ChangeSpec := { name := "heapActs", fn := fun _ => fun
  | [d1, d2] => { results := [.lit (.bool false)], args := [d1, d2] }
  | _ => none }
def HeapActsWrongFalsely : Prop := heapActsRow.holds Try.pinned (OpenSpec.ofChange heapActsWrong)

/-- 'pavanelaw17.HeapNone': WHATEVER THE INPUT: true; the input reads as it did. -/
def heapNoneSpec : ChangeSpec := { name := "heapNone", fn := fun _ => fun
  | [d] => { results := [.lit (.bool true)], args := [d] }
  | _ => none }
def heapNoneRow : OpenClaim := { program := "ytkbnkpllbgofhaa", sum := "2f33f0f618b216d1d55207e15a22b0cf5b69b7b1999b1e62d115af070b0cfc73", func := "pavane/pavanelaw17.HeapNone", spec := "heapNone", unfollowed := true, recurses := true, apart := false }
def HeapNoneSaid : Prop := heapNoneRow.holds Try.pinned (OpenSpec.ofChange heapNoneSpec)

/-- ITS FALSE NEIGHBOUR: 'it returns false'. Refute it at one input. -/
def heapNoneWrong : ChangeSpec := { name := "heapNone", fn := fun _ => fun
  | [d] => { results := [.lit (.bool false)], args := [d] }
  | _ => none }
def HeapNoneWrongFalsely : Prop := heapNoneRow.holds Try.pinned (OpenSpec.ofChange heapNoneWrong)

/-- 'pavanelaw03.DatumOwn': WHATEVER THE INPUT: true; the input reads as it did. -/
def datumOwnSpec : ChangeSpec := { name := "datumOwn", fn := fun _ => fun
  | [d] => { results := [.lit (.bool true)], args := [d] }
  | _ => none }
def datumOwnRow : OpenClaim := { program := "ytkbnkpllbgofhaa", sum := "2f33f0f618b216d1d55207e15a22b0cf5b69b7b1999b1e62d115af070b0cfc73", func := "pavane/pavanelaw03.DatumOwn", spec := "datumOwn", unfollowed := true, recurses := true, loops := true, apart := false }
def DatumOwnSaid : Prop := datumOwnRow.holds Try.pinned (OpenSpec.ofChange datumOwnSpec)

/-- ITS FALSE NEIGHBOUR: 'it returns false'. Refute it at one input. -/
def datumOwnWrong : ChangeSpec := { name := "datumOwn", fn := fun _ => fun
  | [d] => { results := [.lit (.bool false)], args := [d] }
  | _ => none }
def DatumOwnWrongFalsely : Prop := datumOwnRow.holds Try.pinned (OpenSpec.ofChange datumOwnWrong)

/-- 'pavanelaw18.CopyNone': WHATEVER THE INPUT: true; the input reads as it did. -/
def copyNoneSpec : ChangeSpec := { name := "copyNone", fn := fun _ => fun
  | [d] => { results := [.lit (.bool true)], args := [d] }
  | _ => none }
def copyNoneRow : OpenClaim := { program := "ytkbnkpllbgofhaa", sum := "2f33f0f618b216d1d55207e15a22b0cf5b69b7b1999b1e62d115af070b0cfc73", func := "pavane/pavanelaw18.CopyNone", spec := "copyNone", unfollowed := true, recurses := true, apart := false }
def CopyNoneSaid : Prop := copyNoneRow.holds Try.pinned (OpenSpec.ofChange copyNoneSpec)

/-- ITS FALSE NEIGHBOUR: 'it returns false'. Refute it at one input. -/
def copyNoneWrong : ChangeSpec := { name := "copyNone", fn := fun _ => fun
  | [d] => { results := [.lit (.bool false)], args := [d] }
  | _ => none }
def CopyNoneWrongFalsely : Prop := copyNoneRow.holds Try.pinned (OpenSpec.ofChange copyNoneWrong)

/-- 'pavanelaw18.CopyRoom': WHATEVER THE INPUT: true; the input reads as it did. -/
def copyRoomSpec : ChangeSpec := { name := "copyRoom", fn := fun _ => fun
  | [d1, d2] => { results := [.lit (.bool true)], args := [d1, d2] }
  | _ => none }
def copyRoomRow : OpenClaim := { program := "ytkbnkpllbgofhaa", sum := "2f33f0f618b216d1d55207e15a22b0cf5b69b7b1999b1e62d115af070b0cfc73", func := "pavane/pavanelaw18.CopyRoom", spec := "copyRoom", unfollowed := true, recurses := true, apart := false }
def CopyRoomSaid : Prop := copyRoomRow.holds Try.pinned (OpenSpec.ofChange copyRoomSpec)

/-- ITS FALSE NEIGHBOUR: 'it returns false'. Refute it at one input. -/
def copyRoomWrong : ChangeSpec := { name := "copyRoom", fn := fun _ => fun
  | [d1, d2] => { results := [.lit (.bool false)], args := [d1, d2] }
  | _ => none }
def CopyRoomWrongFalsely : Prop := copyRoomRow.holds Try.pinned (OpenSpec.ofChange copyRoomWrong)

/-- 'pavanelaw03.DatumSizes': WHATEVER THE INPUT: true; the input reads as it did. -/
def datumSizesSpec : ChangeSpec := { name := "datumSizes", fn := fun _ => fun
  | [d] => { results := [.lit (.bool true)], args := [d] }
  | _ => none }
def datumSizesRow : OpenClaim := { program := "ytkbnkpllbgofhaa", sum := "2f33f0f618b216d1d55207e15a22b0cf5b69b7b1999b1e62d115af070b0cfc73", func := "pavane/pavanelaw03.DatumSizes", spec := "datumSizes", unfollowed := true, recurses := true, loops := true, apart := false }
def DatumSizesSaid : Prop := datumSizesRow.holds Try.pinned (OpenSpec.ofChange datumSizesSpec)

/-- ITS FALSE NEIGHBOUR: 'it returns false'. Refute it at one input. -/
def datumSizesWrong : ChangeSpec := { name := "datumSizes", fn := fun _ => fun
  | [d] => { results := [.lit (.bool false)], args := [d] }
  | _ => none }
def DatumSizesWrongFalsely : Prop := datumSizesRow.holds Try.pinned (OpenSpec.ofChange datumSizesWrong)

/-- 'pavanelaw18.CopyCollects': WHATEVER THE INPUT: true; the input reads as it did. -/
def copyCollectsSpec : ChangeSpec := { name := "copyCollects", fn := fun _ => fun
  | [d1, d2, d3] => { results := [.lit (.bool true)], args := [d1, d2, d3] }
  | _ => none }
def copyCollectsRow : OpenClaim := { program := "ytkbnkpllbgofhaa", sum := "2f33f0f618b216d1d55207e15a22b0cf5b69b7b1999b1e62d115af070b0cfc73", func := "pavane/pavanelaw18.CopyCollects", spec := "copyCollects", unfollowed := true, recurses := true, apart := false }
def CopyCollectsSaid : Prop := copyCollectsRow.holds Try.pinned (OpenSpec.ofChange copyCollectsSpec)

/-- ITS FALSE NEIGHBOUR: 'it returns false'. Refute it at one input. -/
def copyCollectsWrong : ChangeSpec := { name := "copyCollects", fn := fun _ => fun
  | [d1, d2, d3] => { results := [.lit (.bool false)], args := [d1, d2, d3] }
  | _ => none }
def CopyCollectsWrongFalsely : Prop := copyCollectsRow.holds Try.pinned (OpenSpec.ofChange copyCollectsWrong)

/-- 'pavanelaw18.CopySames': WHATEVER THE INPUT: true; the input reads as it did. -/
def copySamesSpec : ChangeSpec := { name := "copySames", fn := fun _ => fun
  | [d1, d2, d3] => { results := [.lit (.bool true)], args := [d1, d2, d3] }
  | _ => none }
def copySamesRow : OpenClaim := { program := "ytkbnkpllbgofhaa", sum := "2f33f0f618b216d1d55207e15a22b0cf5b69b7b1999b1e62d115af070b0cfc73", func := "pavane/pavanelaw18.CopySames", spec := "copySames", unfollowed := true, recurses := true, apart := false }
def CopySamesSaid : Prop := copySamesRow.holds Try.pinned (OpenSpec.ofChange copySamesSpec)

/-- ITS FALSE NEIGHBOUR: 'it returns false'. Refute it at one input. -/
def copySamesWrong : ChangeSpec := { name := "copySames", fn := fun _ => fun
  | [d1, d2, d3] => { results := [.lit (.bool false)], args := [d1, d2, d3] }
  | _ => none }
def CopySamesWrongFalsely : Prop := copySamesRow.holds Try.pinned (OpenSpec.ofChange copySamesWrong)

/- THE SECOND FORM. 'bulk': how many values and letters a reading holds, each counted each time it is reached (what is shared counts as often as it is met; a slice's spare places count too). A statement '..UptoSaid' is the law's where the arguments, and the package variables that the reading takes, are together of bulk at most 1048576: NARROWER than '..Said'. Prove '..Said' where nothing that the law and all that it calls make is longer than what came in: it says more and counts as full. Else prove '..UptoSaid'. A law counts once. -/
mutual
def uptoBulk {H : Type} : DataW H → Nat
  | .lit (.string bytes) => bytes.length + 1
  | .lit _ => 1
  | .nil => 1
  | .ptr d => uptoBulk d + 1
  | .slice elems spare => uptoBulkAll elems + uptoBulkAll spare + 1
  | .agg parts => uptoBulkAll parts + 1
  | .iface _ d => uptoBulk d + 1
  | .map entries => uptoBulkEntries entries + 1
  | .held _ => 1
def uptoBulkAll {H : Type} : List (DataW H) → Nat
  | [] => 0
  | d :: r => uptoBulk d + uptoBulkAll r
def uptoBulkEntries {H : Type} : List (Lit × DataW H) → Nat
  | [] => 0
  | x :: r => uptoBulkEntry x + uptoBulkEntries r
def uptoBulkEntry {H : Type} : Lit × DataW H → Nat
  | (.string bytes, d) => bytes.length + uptoBulk d + 1
  | (_, d) => uptoBulk d + 1
 end
def uptoSmall : (H : Type) → List (DataW H) → Bool := fun _ ds => decide (uptoBulkAll ds ≤ 1048576)
def OpenSpec.upto (s : _root_.Go.ChangeSpec) : _root_.Go.OpenSpec := { _root_.Go.OpenSpec.ofChange s with cond := some uptoSmall }

/-- 'pavanelaw17.HeapFull', WHERE WHAT IT READS IS OF BULK AT MOST 1048576: true; the input reads as it did. -/
def heapFullUptoRow : OpenClaim := { program := "ytkbnkpllbgofhaa", sum := "2f33f0f618b216d1d55207e15a22b0cf5b69b7b1999b1e62d115af070b0cfc73", func := "pavane/pavanelaw17.HeapFull", spec := "heapFull", apart := false, narrowed := true }
def HeapFullUptoSaid : Prop := heapFullUptoRow.holds Try.pinned (OpenSpec.upto heapFullSpec)

/-- 'pavanelaw17.HeapBack', WHERE WHAT IT READS IS OF BULK AT MOST 1048576: true; the input reads as it did. -/
def heapBackUptoRow : OpenClaim := { program := "ytkbnkpllbgofhaa", sum := "2f33f0f618b216d1d55207e15a22b0cf5b69b7b1999b1e62d115af070b0cfc73", func := "pavane/pavanelaw17.HeapBack", spec := "heapBack", apart := false, narrowed := true }
def HeapBackUptoSaid : Prop := heapBackUptoRow.holds Try.pinned (OpenSpec.upto heapBackSpec)

/-- 'pavanelaw17.HeapKeeps', WHERE WHAT IT READS IS OF BULK AT MOST 1048576: true; the input reads as it did. -/
def heapKeepsUptoRow : OpenClaim := { program := "ytkbnkpllbgofhaa", sum := "2f33f0f618b216d1d55207e15a22b0cf5b69b7b1999b1e62d115af070b0cfc73", func := "pavane/pavanelaw17.HeapKeeps", spec := "heapKeeps", apart := false, narrowed := true }
def HeapKeepsUptoSaid : Prop := heapKeepsUptoRow.holds Try.pinned (OpenSpec.upto heapKeepsSpec)

/-- 'pavanelaw17.HeapWords', WHERE WHAT IT READS IS OF BULK AT MOST 1048576: true; the input reads as it did. -/
def heapWordsUptoRow : OpenClaim := { program := "ytkbnkpllbgofhaa", sum := "2f33f0f618b216d1d55207e15a22b0cf5b69b7b1999b1e62d115af070b0cfc73", func := "pavane/pavanelaw17.HeapWords", spec := "heapWords", apart := false, narrowed := true }
def HeapWordsUptoSaid : Prop := heapWordsUptoRow.holds Try.pinned (OpenSpec.upto heapWordsSpec)

/-- 'pavanelaw17.HeapActs', WHERE WHAT IT READS IS OF BULK AT MOST 1048576: true; the input reads as it did. -/
def heapActsUptoRow : OpenClaim := { program := "ytkbnkpllbgofhaa", sum := "2f33f0f618b216d1d55207e15a22b0cf5b69b7b1999b1e62d115af070b0cfc73", func := "pavane/pavanelaw17.HeapActs", spec := "heapActs", unfollowed := true, recurses := true, apart := false, narrowed := true }
def HeapActsUptoSaid : Prop := heapActsUptoRow.holds Try.pinned (OpenSpec.upto heapActsSpec)

/-- 'pavanelaw17.HeapNone', WHERE WHAT IT READS IS OF BULK AT MOST 1048576: true; the input reads as it did. -/
def heapNoneUptoRow : OpenClaim := { program := "ytkbnkpllbgofhaa", sum := "2f33f0f618b216d1d55207e15a22b0cf5b69b7b1999b1e62d115af070b0cfc73", func := "pavane/pavanelaw17.HeapNone", spec := "heapNone", unfollowed := true, recurses := true, apart := false, narrowed := true }
def HeapNoneUptoSaid : Prop := heapNoneUptoRow.holds Try.pinned (OpenSpec.upto heapNoneSpec)

/-- 'pavanelaw03.DatumOwn', WHERE WHAT IT READS IS OF BULK AT MOST 1048576: true; the input reads as it did. -/
def datumOwnUptoRow : OpenClaim := { program := "ytkbnkpllbgofhaa", sum := "2f33f0f618b216d1d55207e15a22b0cf5b69b7b1999b1e62d115af070b0cfc73", func := "pavane/pavanelaw03.DatumOwn", spec := "datumOwn", unfollowed := true, recurses := true, loops := true, apart := false, narrowed := true }
def DatumOwnUptoSaid : Prop := datumOwnUptoRow.holds Try.pinned (OpenSpec.upto datumOwnSpec)

/-- 'pavanelaw18.CopyNone', WHERE WHAT IT READS IS OF BULK AT MOST 1048576: true; the input reads as it did. -/
def copyNoneUptoRow : OpenClaim := { program := "ytkbnkpllbgofhaa", sum := "2f33f0f618b216d1d55207e15a22b0cf5b69b7b1999b1e62d115af070b0cfc73", func := "pavane/pavanelaw18.CopyNone", spec := "copyNone", unfollowed := true, recurses := true, apart := false, narrowed := true }
def CopyNoneUptoSaid : Prop := copyNoneUptoRow.holds Try.pinned (OpenSpec.upto copyNoneSpec)

/-- 'pavanelaw18.CopyRoom', WHERE WHAT IT READS IS OF BULK AT MOST 1048576: true; the input reads as it did. -/
def copyRoomUptoRow : OpenClaim := { program := "ytkbnkpllbgofhaa", sum := "2f33f0f618b216d1d55207e15a22b0cf5b69b7b1999b1e62d115af070b0cfc73", func := "pavane/pavanelaw18.CopyRoom", spec := "copyRoom", unfollowed := true, recurses := true, apart := false, narrowed := true }
def CopyRoomUptoSaid : Prop := copyRoomUptoRow.holds Try.pinned (OpenSpec.upto copyRoomSpec)

/-- 'pavanelaw03.DatumSizes', WHERE WHAT IT READS IS OF BULK AT MOST 1048576: true; the input reads as it did. -/
def datumSizesUptoRow : OpenClaim := { program := "ytkbnkpllbgofhaa", sum := "2f33f0f618b216d1d55207e15a22b0cf5b69b7b1999b1e62d115af070b0cfc73", func := "pavane/pavanelaw03.DatumSizes", spec := "datumSizes", unfollowed := true, recurses := true, loops := true, apart := false, narrowed := true }
def DatumSizesUptoSaid : Prop := datumSizesUptoRow.holds Try.pinned (OpenSpec.upto datumSizesSpec)

/-- 'pavanelaw18.CopyCollects', WHERE WHAT IT READS IS OF BULK AT MOST 1048576: true; the input reads as it did. -/
def copyCollectsUptoRow : OpenClaim := { program := "ytkbnkpllbgofhaa", sum := "2f33f0f618b216d1d55207e15a22b0cf5b69b7b1999b1e62d115af070b0cfc73", func := "pavane/pavanelaw18.CopyCollects", spec := "copyCollects", unfollowed := true, recurses := true, apart := false, narrowed := true }
def CopyCollectsUptoSaid : Prop := copyCollectsUptoRow.holds Try.pinned (OpenSpec.upto copyCollectsSpec)

/-- 'pavanelaw18.CopySames', WHERE WHAT IT READS IS OF BULK AT MOST 1048576: true; the input reads as it did. -/
def copySamesUptoRow : OpenClaim := { program := "ytkbnkpllbgofhaa", sum := "2f33f0f618b216d1d55207e15a22b0cf5b69b7b1999b1e62d115af070b0cfc73", func := "pavane/pavanelaw18.CopySames", spec := "copySames", unfollowed := true, recurses := true, apart := false, narrowed := true }
def CopySamesUptoSaid : Prop := copySamesUptoRow.holds Try.pinned (OpenSpec.upto copySamesSpec)

end Rows
end Go.Proofs.Ytkbnkpllbgofhaa
