/- The names of api stand for the document's numbers: a closed statement, without any condition: the loop of Names, run over its two lists, comes to true. -/
import Derived.Test.YtcgidcnmhclepaaPNamesx1
namespace Go.Proofs.Ytcgidcnmhclepaa.Pure
open Go.RowKit Go.Proofs.Ytcgidcnmhclepaa.PNames Go.Proofs.YtcgidcnmhclepaaW.PrintWords Go.Proofs.YtcgidcnmhclepaaW.PrintLast

/-- YOURS: ∃ k, indenturelaw0_Names.f k  = some true
What it reaches (each with k first where it has rounds; `.mono`: more rounds tell the same; `.l0`, ..: its loops, with `.mono_l`): indenturelaw0_Names.f -/
theorem Names : indenturelaw0_Names.Pure := by
  exact ⟨70, by decide +kernel⟩

end Go.Proofs.Ytcgidcnmhclepaa.Pure
