/-
  NARROWER THAN 'FOR EVERY INPUT', by the rows' own cells (each row's printed sentence says how): FactorWaves: laid · FactorAlls: laid · FactorMemory: laid.
  DERIVED. THE GIVEN ROWS OF THIS SEAT. 3 by the template 'for every input the law returns true; each argument reads behind the call as it read before'; 0 by the template 'total and deterministic' (their statements: YtjhognibibmeiaaGreatDoorTotals.lean).
  GIVEN WITH THE SEED: the statements are not yours to turn. If you find one false, say at which input.
  Laid BY PROGRAM, IN A SANDBOX (cutbox-rows.mjs): the forced cells as the released guide's own fill.sh prints them over the translation 90ee01ccfb34c901… (all of the seat's roots in one cut). By AI agents, Wed Nov 11 2026. No macro, syntax, notation, axiom, sorry.
-/
import Derived.Test.YtjhognibibmeiaaGreatDoorChecked
import GoSem.Claim
import GoSem.ClaimJoined
import GoSem.ClaimMapViews
import Derived.JoinedTies
import Derived.KernelRfl
namespace Go.Proofs.YtjhognibibmeiaaGreatDoor
/- THE CELL 'sum', in the pinned program and in every row, IS THE sha256 OF THE DUMP (.gsa) THAT YtjhognibibmeiaaGreatDoorProg.lean LOADS. Nothing in Lean hashes anything: it is a label: what it is worth is what the hold of that sum in a sandbox is worth. -/
noncomputable def Tryz.pinned : Pinned := { name := "ytjhognibibmeiaagreatdoor", sum := "90ee01ccfb34c90148c644ba6631a07d67d2b6fdc1241f0c2c097043e283a82c", checked := Tryz.checked }
namespace Rows
def none {H : Type} : Left H := { results := [], args := [] }

/- WHAT THE LISTED PACKAGE-LEVEL VARIABLES READ AS WHEN THE CALL BEGINS. Each datum BY PROGRAM (the guide's laid-datum.mjs) off the statement by which the dump's own 'gosem.cut.vars' lays the variable. In a bare row this is a premise. The card (YtjhognibibmeiaaGreatDoorCards.lean) ties it to the program's text. -/
def laid_facet_facetref17_quarter {H : Type} : DataW H := .agg [.lit (.int .u64 4607182418800017408), .lit (.int .u64 4607177596232733550), .lit (.int .u64 4607163133695007814), .lit (.int .u64 4607139046673687846), .lit (.int .u64 4607105360961759387), .lit (.int .u64 4607062112630726507), .lit (.int .u64 4607009347991985328), .lit (.int .u64 4606947123547232624), .lit (.int .u64 4606875505927962389), .lit (.int .u64 4606794571824115162), .lit (.int .u64 4606704407901956523), .lit (.int .u64 4606605110711272677), .lit (.int .u64 4606496786581982534), .lit (.int .u64 4606379551510276960), .lit (.int .u64 4606253531034407156), .lit (.int .u64 4606118860100255153), .lit (.int .u64 4605975682916830378), .lit (.int .u64 4605824152801847042), .lit (.int .u64 4605664432017547683), .lit (.int .u64 4605496691596948699), .lit (.int .u64 4605321111160693906), .lit (.int .u64 4605137878724712257), .lit (.int .u64 4604947190498885672), .lit (.int .u64 4604749250676942587), .lit (.int .u64 4604544271217802189), .lit (.int .u64 4604332471618603501), .lit (.int .u64 4604114078679662348), .lit (.int .u64 4603889326261607894), .lit (.int .u64 4603658455034958826), .lit (.int .u64 4603421712222407333), .lit (.int .u64 4603179351334086856), .lit (.int .u64 4602931631896107088), .lit (.int .u64 4602678819172646912), .lit (.int .u64 4602163548591158843), .lit (.int .u64 4601639184639747836), .lit (.int .u64 4601106288820466945), .lit (.int .u64 4600565431771507043), .lit (.int .u64 4600017192656143146), .lit (.int .u64 4599462158542551880), .lit (.int .u64 4598900923775164166), .lit (.int .u64 4598334089338226320), .lit (.int .u64 4597349304879225727), .lit (.int .u64 4596196889902818827), .lit (.int .u64 4595036948236777107), .lit (.int .u64 4593870721975689937), .lit (.int .u64 4591727299969791020), .lit (.int .u64 4589377212798040715), .lit (.int .u64 4584876137810324206), .lit (.int .u64 0)]

/-- 'facetlaw18.FactorWaves': WHATEVER THE INPUT: true; the input reads as it did. -/
def factorWavesSpec : ChangeSpec := { name := "factorWaves", fn := fun _ => fun
  | [d1, d2, d3, d4] => { results := [.lit (.bool true)], args := [d1, d2, d3, d4] }
  | _ => none }
def factorWavesRow : OpenClaim := { program := "ytjhognibibmeiaagreatdoor", sum := "90ee01ccfb34c90148c644ba6631a07d67d2b6fdc1241f0c2c097043e283a82c", func := "facet/facetlaw18.FactorWaves", spec := "factorWaves", inPlace := ["math.Float64frombits", "math.Float64bits"], unfollowed := true, recurses := true, named := ["facet/facetref17.quarter"], plainKeys := false, apart := false, laid := [("facet/facetref17.quarter", laid_facet_facetref17_quarter)] }
def FactorWavesSaid : Prop := factorWavesRow.holds Tryz.pinned (OpenSpec.ofChange factorWavesSpec)

/-- ITS FALSE NEIGHBOUR: 'it returns false'. Refute it at one input. -/
def factorWavesWrong : ChangeSpec := { name := "factorWaves", fn := fun _ => fun
  | [d1, d2, d3, d4] => { results := [.lit (.bool false)], args := [d1, d2, d3, d4] }
  | _ => none }
def FactorWavesWrongFalsely : Prop := factorWavesRow.holds Tryz.pinned (OpenSpec.ofChange factorWavesWrong)

/-- 'facetlaw18.FactorAlls': WHATEVER THE INPUT: true; the input reads as it did. -/
def factorAllsSpec : ChangeSpec := { name := "factorAlls", fn := fun _ => fun
  | [d1, d2, d3] => { results := [.lit (.bool true)], args := [d1, d2, d3] }
  | _ => none }
def factorAllsRow : OpenClaim := { program := "ytjhognibibmeiaagreatdoor", sum := "90ee01ccfb34c90148c644ba6631a07d67d2b6fdc1241f0c2c097043e283a82c", func := "facet/facetlaw18.FactorAlls", spec := "factorAlls", inPlace := ["math.Float64frombits", "math.Float64bits"], unfollowed := true, recurses := true, named := ["facet/facetref17.quarter"], plainKeys := false, apart := false, laid := [("facet/facetref17.quarter", laid_facet_facetref17_quarter)] }
def FactorAllsSaid : Prop := factorAllsRow.holds Tryz.pinned (OpenSpec.ofChange factorAllsSpec)

/-- ITS FALSE NEIGHBOUR: 'it returns false'. Refute it at one input. -/
def factorAllsWrong : ChangeSpec := { name := "factorAlls", fn := fun _ => fun
  | [d1, d2, d3] => { results := [.lit (.bool false)], args := [d1, d2, d3] }
  | _ => none }
def FactorAllsWrongFalsely : Prop := factorAllsRow.holds Tryz.pinned (OpenSpec.ofChange factorAllsWrong)

/-- 'facetlaw18.FactorMemory': WHATEVER THE INPUT: true; the input reads as it did. -/
def factorMemorySpec : ChangeSpec := { name := "factorMemory", fn := fun _ => fun
  | [d1, d2, d3] => { results := [.lit (.bool true)], args := [d1, d2, d3] }
  | _ => none }
def factorMemoryRow : OpenClaim := { program := "ytjhognibibmeiaagreatdoor", sum := "90ee01ccfb34c90148c644ba6631a07d67d2b6fdc1241f0c2c097043e283a82c", func := "facet/facetlaw18.FactorMemory", spec := "factorMemory", inPlace := ["math.Float64frombits", "math.Float64bits"], unfollowed := true, recurses := true, named := ["facet/facetref17.quarter"], plainKeys := false, apart := false, laid := [("facet/facetref17.quarter", laid_facet_facetref17_quarter)] }
def FactorMemorySaid : Prop := factorMemoryRow.holds Tryz.pinned (OpenSpec.ofChange factorMemorySpec)

/-- ITS FALSE NEIGHBOUR: 'it returns false'. Refute it at one input. -/
def factorMemoryWrong : ChangeSpec := { name := "factorMemory", fn := fun _ => fun
  | [d1, d2, d3] => { results := [.lit (.bool false)], args := [d1, d2, d3] }
  | _ => none }
def FactorMemoryWrongFalsely : Prop := factorMemoryRow.holds Tryz.pinned (OpenSpec.ofChange factorMemoryWrong)

/- THE SECOND FORM. 'bulk': how many values and letters a reading holds, each counted each time it is reached (what is shared counts as often as it is met; a slice's spare places count too). A statement '..UptoSaid' is the law's where the arguments, and the package variables that the reading takes, are together of bulk at most 1048576: NARROWER than '..Said'. Prove '..Said' where nothing that the law and all that it calls make is longer than what came in: it says more and counts as full. Else prove '..UptoSaid'. A law counts once. -/
mutual
def uptoBulk {H : Type} : DataW H → Nat
  | .lit (.string bytes) => bytes.length + 1
  | .lit _ => 1
  | .nil => 1
  | .ptr d => uptoBulk d + 1
  | .slice elems spare => uptoBulkAll elems + uptoBulkAll spare + 1
  | .agg parts => uptoBulkAll parts + 1
  | .iface _ d => uptoBulk d + 1
  | .map entries => uptoBulkEntries entries + 1
  | .held _ => 1
def uptoBulkAll {H : Type} : List (DataW H) → Nat
  | [] => 0
  | d :: r => uptoBulk d + uptoBulkAll r
def uptoBulkEntries {H : Type} : List (Lit × DataW H) → Nat
  | [] => 0
  | x :: r => uptoBulkEntry x + uptoBulkEntries r
def uptoBulkEntry {H : Type} : Lit × DataW H → Nat
  | (.string bytes, d) => bytes.length + uptoBulk d + 1
  | (_, d) => uptoBulk d + 1
 end
def uptoSmall : (H : Type) → List (DataW H) → Bool := fun _ ds => decide (uptoBulkAll ds ≤ 1048576)
def OpenSpec.upto (s : _root_.Go.ChangeSpec) : _root_.Go.OpenSpec := { _root_.Go.OpenSpec.ofChange s with cond := some uptoSmall }

/-- 'facetlaw18.FactorWaves', WHERE WHAT IT READS IS OF BULK AT MOST 1048576: true; the input reads as it did. -/
def factorWavesUptoRow : OpenClaim := { program := "ytjhognibibmeiaagreatdoor", sum := "90ee01ccfb34c90148c644ba6631a07d67d2b6fdc1241f0c2c097043e283a82c", func := "facet/facetlaw18.FactorWaves", spec := "factorWaves", inPlace := ["math.Float64frombits", "math.Float64bits"], unfollowed := true, recurses := true, named := ["facet/facetref17.quarter"], plainKeys := false, apart := false, laid := [("facet/facetref17.quarter", laid_facet_facetref17_quarter)], narrowed := true }
def FactorWavesUptoSaid : Prop := factorWavesUptoRow.holds Tryz.pinned (OpenSpec.upto factorWavesSpec)

/-- 'facetlaw18.FactorAlls', WHERE WHAT IT READS IS OF BULK AT MOST 1048576: true; the input reads as it did. -/
def factorAllsUptoRow : OpenClaim := { program := "ytjhognibibmeiaagreatdoor", sum := "90ee01ccfb34c90148c644ba6631a07d67d2b6fdc1241f0c2c097043e283a82c", func := "facet/facetlaw18.FactorAlls", spec := "factorAlls", inPlace := ["math.Float64frombits", "math.Float64bits"], unfollowed := true, recurses := true, named := ["facet/facetref17.quarter"], plainKeys := false, apart := false, laid := [("facet/facetref17.quarter", laid_facet_facetref17_quarter)], narrowed := true }
def FactorAllsUptoSaid : Prop := factorAllsUptoRow.holds Tryz.pinned (OpenSpec.upto factorAllsSpec)

/-- 'facetlaw18.FactorMemory', WHERE WHAT IT READS IS OF BULK AT MOST 1048576: true; the input reads as it did. -/
def factorMemoryUptoRow : OpenClaim := { program := "ytjhognibibmeiaagreatdoor", sum := "90ee01ccfb34c90148c644ba6631a07d67d2b6fdc1241f0c2c097043e283a82c", func := "facet/facetlaw18.FactorMemory", spec := "factorMemory", inPlace := ["math.Float64frombits", "math.Float64bits"], unfollowed := true, recurses := true, named := ["facet/facetref17.quarter"], plainKeys := false, apart := false, laid := [("facet/facetref17.quarter", laid_facet_facetref17_quarter)], narrowed := true }
def FactorMemoryUptoSaid : Prop := factorMemoryUptoRow.holds Tryz.pinned (OpenSpec.upto factorMemorySpec)

end Rows
end Go.Proofs.YtjhognibibmeiaaGreatDoor
