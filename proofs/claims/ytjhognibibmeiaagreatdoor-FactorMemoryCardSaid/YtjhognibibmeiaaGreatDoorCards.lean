/-
  DERIVED. GIVEN WITH THE SEED: THE CARDS: each row of YtjhognibibmeiaaGreatDoorRows.lean that lists a variable, with what it lists TIED to the program's text (the seventh form; the later family's looks); each row that meets fmt, with fmt's text TOLD by the authors' own Lean function (tested against real Go, not proved from fmt's source: count such statements apart). THE CARD IS WHAT COUNTS. Prove the row's statement (the work); the ties are given (YtjhognibibmeiaaGreatDoorTie.lean); close each card by the builder's one call (the guide's Derived/Test/ToyasCard.lean, 'card_holds'). Laid BY PROGRAM, IN A SANDBOX (cutbox-door.mjs). By AI agents, Wed Nov 11 2026. No macro, syntax, notation, axiom, sorry.
-/
import Derived.Test.YtjhognibibmeiaaGreatDoorRows
import GoSem.ClaimSeven
namespace Go.Proofs.YtjhognibibmeiaaGreatDoor
namespace Rows

/-- THE TIED CARD OF 'facetlaw18.FactorWaves'. -/
def factorWavesCard : Claim7 := { stood := { row := factorWavesRow, standIns := [], harness := (true, "75f9bae23bd5ef3391de34608eebc8f3f495e9c46481b639720bea5b09346e9a"), looks := false }, kinds := [], alts := [], laidByText := true, laidKinds := [.data], laidTests := true, laidLooks := .later }
def FactorWavesCardSaid : Prop := Claim7.holds Tryz.pinned (.plain (OpenSpec.ofChange factorWavesSpec)) factorWavesCard

/-- THE TIED CARD OF 'facetlaw18.FactorAlls'. -/
def factorAllsCard : Claim7 := { stood := { row := factorAllsRow, standIns := [], harness := (true, "75f9bae23bd5ef3391de34608eebc8f3f495e9c46481b639720bea5b09346e9a"), looks := false }, kinds := [], alts := [], laidByText := true, laidKinds := [.data], laidTests := true, laidLooks := .later }
def FactorAllsCardSaid : Prop := Claim7.holds Tryz.pinned (.plain (OpenSpec.ofChange factorAllsSpec)) factorAllsCard

/-- THE TIED CARD OF 'facetlaw18.FactorMemory'. -/
def factorMemoryCard : Claim7 := { stood := { row := factorMemoryRow, standIns := [], harness := (true, "75f9bae23bd5ef3391de34608eebc8f3f495e9c46481b639720bea5b09346e9a"), looks := false }, kinds := [], alts := [], laidByText := true, laidKinds := [.data], laidTests := true, laidLooks := .later }
def FactorMemoryCardSaid : Prop := Claim7.holds Tryz.pinned (.plain (OpenSpec.ofChange factorMemorySpec)) factorMemoryCard

/-- THE SECOND FORM's CARD OF 'facetlaw18.FactorWaves'. -/
def factorWavesUptoCard : Claim7 := { stood := { row := factorWavesUptoRow, standIns := [], harness := (true, "75f9bae23bd5ef3391de34608eebc8f3f495e9c46481b639720bea5b09346e9a"), looks := false }, kinds := [], alts := [], laidByText := true, laidKinds := [.data], laidTests := true, laidLooks := .later }
def FactorWavesUptoCardSaid : Prop := Claim7.holds Tryz.pinned (.plain (OpenSpec.upto factorWavesSpec)) factorWavesUptoCard

/-- THE SECOND FORM's CARD OF 'facetlaw18.FactorAlls'. -/
def factorAllsUptoCard : Claim7 := { stood := { row := factorAllsUptoRow, standIns := [], harness := (true, "75f9bae23bd5ef3391de34608eebc8f3f495e9c46481b639720bea5b09346e9a"), looks := false }, kinds := [], alts := [], laidByText := true, laidKinds := [.data], laidTests := true, laidLooks := .later }
def FactorAllsUptoCardSaid : Prop := Claim7.holds Tryz.pinned (.plain (OpenSpec.upto factorAllsSpec)) factorAllsUptoCard

/-- THE SECOND FORM's CARD OF 'facetlaw18.FactorMemory'. -/
def factorMemoryUptoCard : Claim7 := { stood := { row := factorMemoryUptoRow, standIns := [], harness := (true, "75f9bae23bd5ef3391de34608eebc8f3f495e9c46481b639720bea5b09346e9a"), looks := false }, kinds := [], alts := [], laidByText := true, laidKinds := [.data], laidTests := true, laidLooks := .later }
def FactorMemoryUptoCardSaid : Prop := Claim7.holds Tryz.pinned (.plain (OpenSpec.upto factorMemorySpec)) factorMemoryUptoCard
end Rows
end Go.Proofs.YtjhognibibmeiaaGreatDoor
