/-
  LinesShows: lines.Show answers what canopyref.ActsShown answers, at every list of acts, and changes none: the tied card, out of the row and the given tie.
-/
import Derived.Test.YtmlplfmddbjegaaDoorLRow
import Derived.Test.YtmlplfmddbjegaaDoorCards
import Derived.Test.YtmlplfmddbjegaaDoorTie
import Derived.SevenTiedAt
namespace Go.Proofs.YtmlplfmddbjegaaDoor
open Go
theorem linesShows_card : Rows.LinesShowsCardSaid :=
  Claim7.holds_tied_plain_at .later [] [.data, .data, .data, .data] true (true, "d0841a4abdf550dd9e8f853785aa940d040cc72aa49285d94c7e4630ed3fb2ce") true
    linesShows_holds (fun _ h => by cases h) (by kernel_rfl) (fun _ h => by cases h) linesShows_row_tie rfl ⟨rfl, rfl⟩ (by kernel_rfl) rfl
    (fun f fn hf hfn => by
      obtain rfl : f = 3 := Option.some.inj ((show Tryd.prog.funcNamed "canopy/canopylaw.LinesShows" = some 3 by kernel_rfl).symm.trans hf) |>.symm
      obtain rfl : fn = Tryd.f3 := (Option.some.inj (Tryd.func3.symm.trans hfn)).symm
      exact ⟨by kernel_rfl, fun j t ht => by
        rw [Tryd.params3] at ht
        have hm : t ∈ [22] := by simpa using Array.mem_of_getElem? ht
        have hall : ([22].all fun u => !Tryd.prog.wantsStandIn u) = true := by kernel_rfl
        exact (show Tryd.prog.wantsStandIn t = false by simpa using List.all_eq_true.1 hall t hm)⟩)
    (by kernel_rfl)
end Go.Proofs.YtmlplfmddbjegaaDoor
