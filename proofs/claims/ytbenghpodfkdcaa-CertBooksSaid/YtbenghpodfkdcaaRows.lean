/-
  No cell of these rows narrows 'for every input' (looked for: loops, veiled, ifaces, maps, wideKeys, modest, calm, conditions, laid).
  DERIVED. THE GIVEN ROWS OF THIS SEAT. 3 by the template 'for every input the law returns true; each argument reads behind the call as it read before'; 0 by the template 'total and deterministic' (their statements: YtbenghpodfkdcaaTotals.lean).
  GIVEN WITH THE SEED: the statements are not yours to turn. If you find one false, say at which input.
  Laid BY PROGRAM, IN A SANDBOX (cutbox-rows.mjs): the forced cells as the released guide's own fill.sh prints them over the translation 5d0cda30019927e4… (all of the seat's roots in one cut). By AI agents, Wed Nov 11 2026. No macro, syntax, notation, axiom, sorry.
-/
import Derived.Test.YtbenghpodfkdcaaChecked
import GoSem.Claim
import GoSem.ClaimJoined
import GoSem.ClaimMapViews
import Derived.JoinedTies
import Derived.KernelRfl
namespace Go.Proofs.Ytbenghpodfkdcaa
/- THE CELL 'sum', in the pinned program and in every row, IS THE sha256 OF THE DUMP (.gsa) THAT YtbenghpodfkdcaaProg.lean LOADS. Nothing in Lean hashes anything: it is a label: what it is worth is what the hold of that sum in a sandbox is worth. -/
noncomputable def Try.pinned : Pinned := { name := "ytbenghpodfkdcaa", sum := "5d0cda30019927e435bf2ae0d578e8e73d0a27d616bf9ee8b33fc46f8a9a3de6", checked := Try.checked }
namespace Rows
def none {H : Type} : Left H := { results := [], args := [] }

/-- 'hoarfrostlaw17.CertTells': WHATEVER THE INPUT: true; the input reads as it did. -/
def certTellsSpec : ChangeSpec := { name := "certTells", fn := fun _ => fun
  | [d1, d2] => { results := [.lit (.bool true)], args := [d1, d2] }
  | _ => none }
def certTellsRow : OpenClaim := { program := "ytbenghpodfkdcaa", sum := "5d0cda30019927e435bf2ae0d578e8e73d0a27d616bf9ee8b33fc46f8a9a3de6", func := "hoarfrost/hoarfrostlaw17.CertTells", spec := "certTells", apart := false }
def CertTellsSaid : Prop := certTellsRow.holds Try.pinned (OpenSpec.ofChange certTellsSpec)

/-- ITS FALSE NEIGHBOUR: 'it returns false'. Refute it at one input. -/
def certTellsWrong : ChangeSpec := { name := "certTells", fn := fun _ => fun
  | [d1, d2] => { results := [.lit (.bool false)], args := [d1, d2] }
  | _ => none }
def CertTellsWrongFalsely : Prop := certTellsRow.holds Try.pinned (OpenSpec.ofChange certTellsWrong)

/-- 'hoarfrostlaw17.CertBooks': WHATEVER THE INPUT: true; the input reads as it did. -/
def certBooksSpec : ChangeSpec := { name := "certBooks", fn := fun _ => fun
  | [d1, d2, d3] => { results := [.lit (.bool true)], args := [d1, d2, d3] }
  | _ => none }
def certBooksRow : OpenClaim := { program := "ytbenghpodfkdcaa", sum := "5d0cda30019927e435bf2ae0d578e8e73d0a27d616bf9ee8b33fc46f8a9a3de6", func := "hoarfrost/hoarfrostlaw17.CertBooks", spec := "certBooks", apart := false }
def CertBooksSaid : Prop := certBooksRow.holds Try.pinned (OpenSpec.ofChange certBooksSpec)

/-- ITS FALSE NEIGHBOUR: 'it returns false'. Refute it at one input. -/
def certBooksWrong : ChangeSpec := { name := "certBooks", fn := fun _ => fun
  | [d1, d2, d3] => { results := [.lit (.bool false)], args := [d1, d2, d3] }
  | _ => none }
def CertBooksWrongFalsely : Prop := certBooksRow.holds Try.pinned (OpenSpec.ofChange certBooksWrong)

/-- 'hoarfrostlaw17.CertBurst': WHATEVER THE INPUT: true; the input reads as it did. -/
def certBurstSpec : ChangeSpec := { name := "certBurst", fn := fun _ => fun
  | [d1, d2, d3] => { results := [.lit (.bool true)], args := [d1, d2, d3] }
  | _ => none }
def certBurstRow : OpenClaim := { program := "ytbenghpodfkdcaa", sum := "5d0cda30019927e435bf2ae0d578e8e73d0a27d616bf9ee8b33fc46f8a9a3de6", func := "hoarfrost/hoarfrostlaw17.CertBurst", spec := "certBurst", apart := false }
def CertBurstSaid : Prop := certBurstRow.holds Try.pinned (OpenSpec.ofChange certBurstSpec)

/-- ITS FALSE NEIGHBOUR: 'it returns false'. Refute it at one input. -/
def certBurstWrong : ChangeSpec := { name := "certBurst", fn := fun _ => fun
  | [d1, d2, d3] => { results := [.lit (.bool false)], args := [d1, d2, d3] }
  | _ => none }
def CertBurstWrongFalsely : Prop := certBurstRow.holds Try.pinned (OpenSpec.ofChange certBurstWrong)

/- THE SECOND FORM. 'bulk': how many values and letters a reading holds, each counted each time it is reached (what is shared counts as often as it is met; a slice's spare places count too). A statement '..UptoSaid' is the law's where the arguments, and the package variables that the reading takes, are together of bulk at most 1048576: NARROWER than '..Said'. Prove '..Said' where nothing that the law and all that it calls make is longer than what came in: it says more and counts as full. Else prove '..UptoSaid'. A law counts once. -/
mutual
def uptoBulk {H : Type} : DataW H → Nat
  | .lit (.string bytes) => bytes.length + 1
  | .lit _ => 1
  | .nil => 1
  | .ptr d => uptoBulk d + 1
  | .slice elems spare => uptoBulkAll elems + uptoBulkAll spare + 1
  | .agg parts => uptoBulkAll parts + 1
  | .iface _ d => uptoBulk d + 1
  | .map entries => uptoBulkEntries entries + 1
  | .held _ => 1
def uptoBulkAll {H : Type} : List (DataW H) → Nat
  | [] => 0
  | d :: r => uptoBulk d + uptoBulkAll r
def uptoBulkEntries {H : Type} : List (Lit × DataW H) → Nat
  | [] => 0
  | x :: r => uptoBulkEntry x + uptoBulkEntries r
def uptoBulkEntry {H : Type} : Lit × DataW H → Nat
  | (.string bytes, d) => bytes.length + uptoBulk d + 1
  | (_, d) => uptoBulk d + 1
 end
def uptoSmall : (H : Type) → List (DataW H) → Bool := fun _ ds => decide (uptoBulkAll ds ≤ 1048576)
def OpenSpec.upto (s : _root_.Go.ChangeSpec) : _root_.Go.OpenSpec := { _root_.Go.OpenSpec.ofChange s with cond := some uptoSmall }

/-- 'hoarfrostlaw17.CertTells', WHERE WHAT IT READS IS OF BULK AT MOST 1048576: true; the input reads as it did. -/
def certTellsUptoRow : OpenClaim := { program := "ytbenghpodfkdcaa", sum := "5d0cda30019927e435bf2ae0d578e8e73d0a27d616bf9ee8b33fc46f8a9a3de6", func := "hoarfrost/hoarfrostlaw17.CertTells", spec := "certTells", apart := false, narrowed := true }
def CertTellsUptoSaid : Prop := certTellsUptoRow.holds Try.pinned (OpenSpec.upto certTellsSpec)

/-- 'hoarfrostlaw17.CertBooks', WHERE WHAT IT READS IS OF BULK AT MOST 1048576: true; the input reads as it did. -/
def certBooksUptoRow : OpenClaim := { program := "ytbenghpodfkdcaa", sum := "5d0cda30019927e435bf2ae0d578e8e73d0a27d616bf9ee8b33fc46f8a9a3de6", func := "hoarfrost/hoarfrostlaw17.CertBooks", spec := "certBooks", apart := false, narrowed := true }
def CertBooksUptoSaid : Prop := certBooksUptoRow.holds Try.pinned (OpenSpec.upto certBooksSpec)

/-- 'hoarfrostlaw17.CertBurst', WHERE WHAT IT READS IS OF BULK AT MOST 1048576: true; the input reads as it did. -/
def certBurstUptoRow : OpenClaim := { program := "ytbenghpodfkdcaa", sum := "5d0cda30019927e435bf2ae0d578e8e73d0a27d616bf9ee8b33fc46f8a9a3de6", func := "hoarfrost/hoarfrostlaw17.CertBurst", spec := "certBurst", apart := false, narrowed := true }
def CertBurstUptoSaid : Prop := certBurstUptoRow.holds Try.pinned (OpenSpec.upto certBurstSpec)

end Rows
end Go.Proofs.Ytbenghpodfkdcaa
